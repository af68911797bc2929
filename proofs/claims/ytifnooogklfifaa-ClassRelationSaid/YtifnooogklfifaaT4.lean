-- The seat's functions as the evaluator goes through them: typed models and their laws.
import Derived.Test.YtifnooogklfifaaProg
import Derived.Test.YtifnooogklfifaaEvF
import Derived.Test.YtifnooogklfifaaT3
import Derived.KernelRfl
namespace Go.Proofs.Ytifnooogklfifaa
open Go.Proofs.Ytifnooogklfifaa.Ev
set_option linter.unusedVariables false
open Go

noncomputable def ty22 : TI := ⟨.slice 33, 1, 24, [.slice none 0 0]⟩
noncomputable def ty44 : TI := ⟨.func, 1, 8, [.nilFunc]⟩
noncomputable def ty51 : TI := ⟨.struct [(44, 0), (2, 1)], 2, 16, [.nilFunc, .int .i64 0]⟩
noncomputable def ty52 : TI := ⟨.slice 51, 1, 24, [.slice none 0 0]⟩
noncomputable def ty53 : TI := ⟨.map 33 2, 1, 8, [.map none]⟩
noncomputable def ty61 : TI := ⟨.slice 2, 1, 24, [.slice none 0 0]⟩
noncomputable def ty71 : TI := ⟨.slice 3, 1, 24, [.slice none 0 0]⟩
theorem ty22_ok : TyOK1 Try.prog 22 ty22 := tyok_of (by kernel_rfl) (by kernel_rfl) (by kernel_rfl) (by kernel_rfl) (by kernel_rfl) (by kernel_rfl) (by kernel_rfl) (Try.underlying22) (by kernel_rfl)
theorem ty44_ok : TyOK1 Try.prog 44 ty44 := tyok_of (by kernel_rfl) (by kernel_rfl) (by kernel_rfl) (by kernel_rfl) (by kernel_rfl) (by kernel_rfl) (by kernel_rfl) (⟨_, _, _, Try.underlying44⟩) (by kernel_rfl)
theorem ty51_ok : TyOK1 Try.prog 51 ty51 := tyok_of (by kernel_rfl) (by kernel_rfl) (by kernel_rfl) (by kernel_rfl) (by kernel_rfl) (by kernel_rfl) (by kernel_rfl) (tk_struct Try.underlying51 (by kernel_rfl) (by kernel_rfl)) (by kernel_rfl)
theorem ty52_ok : TyOK1 Try.prog 52 ty52 := tyok_of (by kernel_rfl) (by kernel_rfl) (by kernel_rfl) (by kernel_rfl) (by kernel_rfl) (by kernel_rfl) (by kernel_rfl) (Try.underlying52) (by kernel_rfl)
theorem ty53_ok : TyOK1 Try.prog 53 ty53 := tyok_of (by kernel_rfl) (by kernel_rfl) (by kernel_rfl) (by kernel_rfl) (by kernel_rfl) (by kernel_rfl) (by kernel_rfl) (tk_map Try.underlying53 (by kernel_rfl)) (by kernel_rfl)
theorem ty61_ok : TyOK1 Try.prog 61 ty61 := tyok_of (by kernel_rfl) (by kernel_rfl) (by kernel_rfl) (by kernel_rfl) (by kernel_rfl) (by kernel_rfl) (by kernel_rfl) (Try.underlying61) (by kernel_rfl)
theorem ty71_ok : TyOK1 Try.prog 71 ty71 := tyok_of (by kernel_rfl) (by kernel_rfl) (by kernel_rfl) (by kernel_rfl) (by kernel_rfl) (by kernel_rfl) (by kernel_rfl) (Try.underlying71) (by kernel_rfl)
/-! cmp.isNaN[int64]: function 52 -/
noncomputable def cmp_isNaN_int64_.f (N : Nat) (a1 : Int) : Option (Bool) :=
  some (a1 != a1)
noncomputable def cmp_isNaN_int64_.body : Code := (Try.f52.body).getD .skip
noncomputable def cmp_isNaN_int64_.ty : List (Nat × TI) := []
noncomputable def cmp_isNaN_int64_.E (N : Nat) : Env := { ty := lookN cmp_isNaN_int64_.ty, tab := lookN [], hint := lookN [], cut := lookN [], N := N, res := [.tmp 2], rsh := [.any], nb := 0, ntmps := 6, own := false }
noncomputable def cmp_isNaN_int64_.dec (v : V) (bs : List Blk) : Option (Bool) := match v, bs with
  | .c (.bool z0), [] => some z0
  | _, _ => none
set_option maxRecDepth 100000 in
theorem cmp_isNaN_int64_.f_eq (N : Nat) (a1 : Int) :
    evFun (cmp_isNaN_int64_.E N) cmp_isNaN_int64_.body [.c (.int .i64 a1)] [] cmp_isNaN_int64_.dec = cmp_isNaN_int64_.f N a1 := by kernel_rfl
noncomputable def cmp_isNaN_int64_.ent (N : Nat) : Entry := { A := Bool, fresh := 0, imm := [true], dec := fun args bs => match freezeL 0 (fun _ => .dead) [.any] args, bs with
  | some [.c (.int .i64 a1)], [] => some (cmp_isNaN_int64_.f N a1, fun r => .one (.c (.bool r)) [])
  | _, _ => none }
theorem cmp_isNaN_int64_.env (N : Nat) : EnvOK Try.prog (cmp_isNaN_int64_.E N) := ⟨TyOK.nil, TabOK.nil⟩
theorem cmp_isNaN_int64_.res_eq (N : Nat) : (cmp_isNaN_int64_.E N).res = Try.f52.results.toList := by kernel_rfl
theorem cmp_isNaN_int64_.spec (N : Nat) (a1 : Int) (r : Bool) (h : cmp_isNaN_int64_.f N a1 = some r) : FnSpec Try.prog 52 [.c (.int .i64 a1)] [] (.c (.bool r)) ([]) := by
  rw [← cmp_isNaN_int64_.f_eq] at h
  refine (evFun_ok (cmp_isNaN_int64_.env N) Try_mixed Try.func52 (by kernel_rfl : Try.f52.body = some cmp_isNaN_int64_.body) (by kernel_rfl) (cmp_isNaN_int64_.res_eq N) (by kernel_rfl) (by kernel_rfl) (Nat.le_of_ble_eq_true (by kernel_rfl)) (AllCut.of (l := []) (by kernel_rfl) AllCut.nil) h).of fun v bs' h1 => ?_
  unfold cmp_isNaN_int64_.dec at h1; split at h1
  · cases h1; exact ⟨rfl, rfl⟩
  · cases h1
theorem cmp_isNaN_int64_.ent_ok (N : Nat) : TabOK1 Try.prog 52 (cmp_isNaN_int64_.ent N) := by
  intro args bs a enc h
  simp only [cmp_isNaN_int64_.ent] at h
  split at h
  · rename_i hz; have h0 := Option.some.inj h; have h1 := congrArg Prod.fst h0; have h2 := congrArg Prod.snd h0; dsimp only at h1 h2; subst h2; exact FnSpec.of_freeze hz (cmp_isNaN_int64_.spec N _ a h1)
  · cases h
/-! cmp.Compare[int64]: function 46 -/
noncomputable def cmp_Compare_int64_.f (N : Nat) (a1 : Int) (a2 : Int) : Option (Int) :=
  (cmp_isNaN_int64_.f N a1).bind fun r3 =>
  (cmp_isNaN_int64_.f N a2).bind fun r4 =>
  bif r3 then
    bif r4 then
      some 0
    else
    some (-1)
  else
  bif r4 then
    some 1
  else
  bif decide (a1 < a2) then
    some (-1)
  else
  bif decide (a1 > a2) then
    some 1
  else
  some 0
noncomputable def cmp_Compare_int64_.body : Code := (Try.f46.body).getD .skip
noncomputable def cmp_Compare_int64_.ty : List (Nat × TI) := []
noncomputable def cmp_Compare_int64_.E (N : Nat) : Env := { ty := lookN cmp_Compare_int64_.ty, tab := lookN [(52, cmp_isNaN_int64_.ent N)], hint := lookN [], cut := lookN [], N := N, res := [.tmp 4], rsh := [.any], nb := 0, ntmps := 20, own := false }
noncomputable def cmp_Compare_int64_.dec (v : V) (bs : List Blk) : Option (Int) := match v, bs with
  | .c (.int .i64 z0), [] => some z0
  | _, _ => none
set_option maxRecDepth 100000 in
theorem cmp_Compare_int64_.f_eq (N : Nat) (a1 : Int) (a2 : Int) :
    evFun (cmp_Compare_int64_.E N) cmp_Compare_int64_.body [.c (.int .i64 a1), .c (.int .i64 a2)] [] cmp_Compare_int64_.dec = cmp_Compare_int64_.f N a1 a2 := by kernel_rfl
noncomputable def cmp_Compare_int64_.ent (N : Nat) : Entry := { A := Int, fresh := 0, imm := [true, true], dec := fun args bs => match freezeL 0 (fun _ => .dead) [.any, .any] args, bs with
  | some [.c (.int .i64 a1), .c (.int .i64 a2)], [] => some (cmp_Compare_int64_.f N a1 a2, fun r => .one (.c (.int .i64 r)) [])
  | _, _ => none }
theorem cmp_Compare_int64_.env (N : Nat) : EnvOK Try.prog (cmp_Compare_int64_.E N) := ⟨TyOK.nil, (TabOK.cons (cmp_isNaN_int64_.ent_ok N) TabOK.nil)⟩
theorem cmp_Compare_int64_.res_eq (N : Nat) : (cmp_Compare_int64_.E N).res = Try.f46.results.toList := by kernel_rfl
theorem cmp_Compare_int64_.spec (N : Nat) (a1 : Int) (a2 : Int) (r : Int) (h : cmp_Compare_int64_.f N a1 a2 = some r) : FnSpec Try.prog 46 [.c (.int .i64 a1), .c (.int .i64 a2)] [] (.c (.int .i64 r)) ([]) := by
  rw [← cmp_Compare_int64_.f_eq] at h
  refine (evFun_ok (cmp_Compare_int64_.env N) Try_mixed Try.func46 (by kernel_rfl : Try.f46.body = some cmp_Compare_int64_.body) (by kernel_rfl) (cmp_Compare_int64_.res_eq N) (by kernel_rfl) (by kernel_rfl) (Nat.le_of_ble_eq_true (by kernel_rfl)) (AllCut.of (l := []) (by kernel_rfl) AllCut.nil) h).of fun v bs' h1 => ?_
  unfold cmp_Compare_int64_.dec at h1; split at h1
  · cases h1; exact ⟨rfl, rfl⟩
  · cases h1
theorem cmp_Compare_int64_.ent_ok (N : Nat) : TabOK1 Try.prog 46 (cmp_Compare_int64_.ent N) := by
  intro args bs a enc h
  simp only [cmp_Compare_int64_.ent] at h
  split at h
  · rename_i hz; have h0 := Option.some.inj h; have h1 := congrArg Prod.fst h0; have h2 := congrArg Prod.snd h0; dsimp only at h1 h2; subst h2; exact FnSpec.of_freeze hz (cmp_Compare_int64_.spec N _ _ a h1)
  · cases h
/-! cmp.Or[int]: function 45 -/
noncomputable def cmp_Or_int_.l3 {R : Type} (N : Nat) : Nat → Int → List Int → Int → Int → (Int → Option R) → (Int → Option R) → Option R
  | 0, _, _, _, _, _, _ => none
  | n + 1, x2, x3, x4, x5, k0, kr =>
    bif decide (x5 < x4) then
      bif (decide (0 ≤ x5)) && (decide (x5 < (x3.length : Int))) then
        bif (x3.getD x5.toNat 0) != x2 then
          kr (x3.getD x5.toNat 0)
        else
        cmp_Or_int_.l3 N n x2 x3 x4 (wi64 (x5 + 1)) k0 kr
      else none
    else
    k0 x2
noncomputable def cmp_Or_int_.f (N : Nat) (a1 : List Int) : Option (Int) :=
  cmp_Or_int_.l3 N N 0 a1 (a1.length : Int) 0
    (fun y8 =>
      some y8)
    (fun y9 =>
      some y9)
noncomputable def cmp_Or_int_.body : Code := (Try.f45.body).getD .skip
noncomputable def cmp_Or_int_.ty : List (Nat × TI) := [(3, ty3), (71, ty71)]
noncomputable def cmp_Or_int_.h3 : Hint := ⟨[(3, .any), (6, .il .i64 1), (7, .any), (8, .any)], [(3, .any)]⟩
noncomputable def cmp_Or_int_.c3 (N : Nat) : Cut := ⟨fun vs H k => match vs, H with
  | [.c (.int .i64 x2), .il .i64 1 x3, .c (.int .i64 x4), .c (.int .i64 x5)], [] => cmp_Or_int_.l3 N N x2 x3 x4 x5 (fun x7 => k (.exit 0) ⟨mkT cmp_Or_int_.h3.out [.c (.int .i64 x7)], []⟩) (fun x6 => k (.ret (.c (.int .i64 x6)) []) .nil)
  | _, _ => none⟩
noncomputable def cmp_Or_int_.E (N : Nat) : Env := { ty := lookN cmp_Or_int_.ty, tab := lookN [], hint := lookN [(3, cmp_Or_int_.h3)], cut := lookN [(3, cmp_Or_int_.c3 N)], N := N, res := [.tmp 2], rsh := [.any], nb := 0, ntmps := 18, own := false }
noncomputable def cmp_Or_int_.b3 : Code := inner ((subLoops cmp_Or_int_.body).getD 0 .skip)
set_option maxRecDepth 100000 in
theorem cmp_Or_int_.l3_eq {R : Type} (N n : Nat) (x2 : Int) (x3 : List Int) (x4 : Int) (x5 : Int) (k : Ex → St → Option R) :
    evLoop 0 cmp_Or_int_.h3 (fun s k => evCode (cmp_Or_int_.E N) 394 cmp_Or_int_.b3 s k) n [.c (.int .i64 x2), .il .i64 1 x3, .c (.int .i64 x4), .c (.int .i64 x5)] [] k = cmp_Or_int_.l3 N n x2 x3 x4 x5 (fun x7 => k (.exit 0) ⟨mkT cmp_Or_int_.h3.out [.c (.int .i64 x7)], []⟩) (fun x6 => k (.ret (.c (.int .i64 x6)) []) .nil) := by
  induction n generalizing x2 x3 x4 x5 with
  | zero => kernel_rfl
  | succ n ih =>
    simp only [cmp_Or_int_.l3, ← ih]
    kernel_rfl
noncomputable def cmp_Or_int_.dec (v : V) (bs : List Blk) : Option (Int) := match v, bs with
  | .c (.int .i64 z0), [] => some z0
  | _, _ => none
set_option maxRecDepth 100000 in
theorem cmp_Or_int_.f_eq (N : Nat) (a1 : List Int) :
    evFun (cmp_Or_int_.E N) cmp_Or_int_.body [.il .i64 1 a1] [] cmp_Or_int_.dec = cmp_Or_int_.f N a1 := by kernel_rfl
noncomputable def cmp_Or_int_.ent (N : Nat) : Entry := { A := Int, fresh := 0, imm := [true], dec := fun args bs => match freezeL 0 (fun _ => .dead) [.il .i64 1] args, bs with
  | some [.il .i64 1 a1], [] => some (cmp_Or_int_.f N a1, fun r => .one (.c (.int .i64 r)) [])
  | _, _ => none }
theorem cmp_Or_int_.env (N : Nat) : EnvOK Try.prog (cmp_Or_int_.E N) := ⟨(TyOK.cons ty3_ok (TyOK.cons ty71_ok TyOK.nil)), TabOK.nil⟩
theorem cmp_Or_int_.res_eq (N : Nat) : (cmp_Or_int_.E N).res = Try.f45.results.toList := by kernel_rfl
theorem cmp_Or_int_.k3 (N : Nat) : CutOK Try.prog Try.f45 (cmp_Or_int_.E N) (.loop cmp_Or_int_.b3) := by
  intro e hd he hh R vs H k r h
  have e1 : (cmp_Or_int_.E N).cut (loopKey cmp_Or_int_.b3) = some (cmp_Or_int_.c3 N) := by kernel_rfl
  have e2 : (cmp_Or_int_.E N).hint (loopKey cmp_Or_int_.b3) = some cmp_Or_int_.h3 := by kernel_rfl
  rw [e1] at he; rw [e2] at hh; cases he; cases hh
  unfold cmp_Or_int_.c3 at h; dsimp only at h
  split at h
  · rw [← cmp_Or_int_.l3_eq] at h
    exact loop_ok (evCode_ok (cmp_Or_int_.env N) Try_mixed (cmp_Or_int_.res_eq N) 394 cmp_Or_int_.b3 (AllCut.of (l := []) (by kernel_rfl) AllCut.nil)) h
  · cases h
theorem cmp_Or_int_.spec (N : Nat) (a1 : List Int) (r : Int) (h : cmp_Or_int_.f N a1 = some r) : FnSpec Try.prog 45 [.il .i64 1 a1] [] (.c (.int .i64 r)) ([]) := by
  rw [← cmp_Or_int_.f_eq] at h
  refine (evFun_ok (cmp_Or_int_.env N) Try_mixed Try.func45 (by kernel_rfl : Try.f45.body = some cmp_Or_int_.body) (by kernel_rfl) (cmp_Or_int_.res_eq N) (by kernel_rfl) (by kernel_rfl) (Nat.le_of_ble_eq_true (by kernel_rfl)) (AllCut.of (l := [(.loop (inner ((subLoops cmp_Or_int_.body).getD 0 .skip)))]) (by kernel_rfl) (AllCut.cons (cmp_Or_int_.k3 N) AllCut.nil)) h).of fun v bs' h1 => ?_
  unfold cmp_Or_int_.dec at h1; split at h1
  · cases h1; exact ⟨rfl, rfl⟩
  · cases h1
theorem cmp_Or_int_.ent_ok (N : Nat) : TabOK1 Try.prog 45 (cmp_Or_int_.ent N) := by
  intro args bs a enc h
  simp only [cmp_Or_int_.ent] at h
  split at h
  · rename_i hz; have h0 := Option.some.inj h; have h1 := congrArg Prod.fst h0; have h2 := congrArg Prod.snd h0; dsimp only at h1 h2; subst h2; exact FnSpec.of_freeze hz (cmp_Or_int_.spec N _ a h1)
  · cases h
/-! parquet/classes.all$1: function 44 -/
noncomputable def classes_all_1.f (N : Nat) (a1 : Int) (a2 : Int) (a3 : Int) (a4 : Int) (a5 : Int) (a6 : Int) : Option (Int) :=
  (cmp_Compare_int64_.f N a1 a4).bind fun r7 =>
  (cmp_Compare_int64_.f N a2 a5).bind fun r8 =>
  (cmp_Compare_int64_.f N a3 a6).bind fun r9 =>
  (cmp_Or_int_.f N [r7, r8, r9]).bind fun r10 =>
  some r10
noncomputable def classes_all_1.body : Code := (Try.f44.body).getD .skip
noncomputable def classes_all_1.ty : List (Nat × TI) := [(2, ty2), (3, ty3), (33, ty33), (71, ty71)]
noncomputable def classes_all_1.E (N : Nat) : Env := { ty := lookN classes_all_1.ty, tab := lookN [(46, cmp_Compare_int64_.ent N), (45, cmp_Or_int_.ent N)], hint := lookN [], cut := lookN [], N := N, res := [.tmp 4], rsh := [.any], nb := 0, ntmps := 22, own := false }
noncomputable def classes_all_1.dec (v : V) (bs : List Blk) : Option (Int) := match v, bs with
  | .c (.int .i64 z0), [] => some z0
  | _, _ => none
set_option maxRecDepth 100000 in
theorem classes_all_1.f_eq (N : Nat) (a1 : Int) (a2 : Int) (a3 : Int) (a4 : Int) (a5 : Int) (a6 : Int) :
    evFun (classes_all_1.E N) classes_all_1.body [.agg [.c (.int .i64 a1), .c (.int .i64 a2), .c (.int .i64 a3)], .agg [.c (.int .i64 a4), .c (.int .i64 a5), .c (.int .i64 a6)]] [] classes_all_1.dec = classes_all_1.f N a1 a2 a3 a4 a5 a6 := by kernel_rfl
noncomputable def classes_all_1.ent (N : Nat) : Entry := { A := Int, fresh := 0, imm := [true, true], dec := fun args bs => match freezeL 0 (fun _ => .dead) [.recd [.any, .any, .any], .recd [.any, .any, .any]] args, bs with
  | some [.agg [.c (.int .i64 a1), .c (.int .i64 a2), .c (.int .i64 a3)], .agg [.c (.int .i64 a4), .c (.int .i64 a5), .c (.int .i64 a6)]], [] => some (classes_all_1.f N a1 a2 a3 a4 a5 a6, fun r => .one (.c (.int .i64 r)) [])
  | _, _ => none }
theorem classes_all_1.env (N : Nat) : EnvOK Try.prog (classes_all_1.E N) := ⟨(TyOK.cons ty2_ok (TyOK.cons ty3_ok (TyOK.cons ty33_ok (TyOK.cons ty71_ok TyOK.nil)))), (TabOK.cons (cmp_Compare_int64_.ent_ok N) (TabOK.cons (cmp_Or_int_.ent_ok N) TabOK.nil))⟩
theorem classes_all_1.res_eq (N : Nat) : (classes_all_1.E N).res = Try.f44.results.toList := by kernel_rfl
theorem classes_all_1.spec (N : Nat) (a1 : Int) (a2 : Int) (a3 : Int) (a4 : Int) (a5 : Int) (a6 : Int) (r : Int) (h : classes_all_1.f N a1 a2 a3 a4 a5 a6 = some r) : FnSpec Try.prog 44 [.agg [.c (.int .i64 a1), .c (.int .i64 a2), .c (.int .i64 a3)], .agg [.c (.int .i64 a4), .c (.int .i64 a5), .c (.int .i64 a6)]] [] (.c (.int .i64 r)) ([]) := by
  rw [← classes_all_1.f_eq] at h
  refine (evFun_ok (classes_all_1.env N) Try_mixed Try.func44 (by kernel_rfl : Try.f44.body = some classes_all_1.body) (by kernel_rfl) (classes_all_1.res_eq N) (by kernel_rfl) (by kernel_rfl) (Nat.le_of_ble_eq_true (by kernel_rfl)) (AllCut.of (l := []) (by kernel_rfl) AllCut.nil) h).of fun v bs' h1 => ?_
  unfold classes_all_1.dec at h1; split at h1
  · cases h1; exact ⟨rfl, rfl⟩
  · cases h1
theorem classes_all_1.ent_ok (N : Nat) : TabOK1 Try.prog 44 (classes_all_1.ent N) := by
  intro args bs a enc h
  simp only [classes_all_1.ent] at h
  split at h
  · rename_i hz; have h0 := Option.some.inj h; have h1 := congrArg Prod.fst h0; have h2 := congrArg Prod.snd h0; dsimp only at h1 h2; subst h2; exact FnSpec.of_freeze hz (classes_all_1.spec N _ _ _ _ _ _ a h1)
  · cases h
/-! parquet/classes.Check: function 12 -/
noncomputable def classes_Check.f (N : Nat) (a1 : Int) : Option (Int) :=
  bif decide (a1 < (-65536)) then
    some 80
  else
  bif decide (a1 > (-3)) then
    some 80
  else
  bif (Int.tmod (wi64 (0 - a1)) 4) == 1 then
    some 80
  else
  bif (Int.tmod (wi64 (0 - a1)) 4) == 2 then
    some 80
  else
  some 0
noncomputable def classes_Check.body : Code := (Try.f12.body).getD .skip
noncomputable def classes_Check.ty : List (Nat × TI) := []
noncomputable def classes_Check.E (N : Nat) : Env := { ty := lookN classes_Check.ty, tab := lookN [], hint := lookN [], cut := lookN [], N := N, res := [.tmp 2], rsh := [.any], nb := 0, ntmps := 21, own := false }
noncomputable def classes_Check.dec (v : V) (bs : List Blk) : Option (Int) := match v, bs with
  | .c (.int .i64 z0), [] => some z0
  | _, _ => none
set_option maxRecDepth 100000 in
theorem classes_Check.f_eq (N : Nat) (a1 : Int) :
    evFun (classes_Check.E N) classes_Check.body [.c (.int .i64 a1)] [] classes_Check.dec = classes_Check.f N a1 := by kernel_rfl
noncomputable def classes_Check.ent (N : Nat) : Entry := { A := Int, fresh := 0, imm := [true], dec := fun args bs => match freezeL 0 (fun _ => .dead) [.any] args, bs with
  | some [.c (.int .i64 a1)], [] => some (classes_Check.f N a1, fun r => .one (.c (.int .i64 r)) [])
  | _, _ => none }
theorem classes_Check.env (N : Nat) : EnvOK Try.prog (classes_Check.E N) := ⟨TyOK.nil, TabOK.nil⟩
theorem classes_Check.res_eq (N : Nat) : (classes_Check.E N).res = Try.f12.results.toList := by kernel_rfl
theorem classes_Check.spec (N : Nat) (a1 : Int) (r : Int) (h : classes_Check.f N a1 = some r) : FnSpec Try.prog 12 [.c (.int .i64 a1)] [] (.c (.int .i64 r)) ([]) := by
  rw [← classes_Check.f_eq] at h
  refine (evFun_ok (classes_Check.env N) Try_mixed Try.func12 (by kernel_rfl : Try.f12.body = some classes_Check.body) (by kernel_rfl) (classes_Check.res_eq N) (by kernel_rfl) (by kernel_rfl) (Nat.le_of_ble_eq_true (by kernel_rfl)) (AllCut.of (l := []) (by kernel_rfl) AllCut.nil) h).of fun v bs' h1 => ?_
  unfold classes_Check.dec at h1; split at h1
  · cases h1; exact ⟨rfl, rfl⟩
  · cases h1
theorem classes_Check.ent_ok (N : Nat) : TabOK1 Try.prog 12 (classes_Check.ent N) := by
  intro args bs a enc h
  simp only [classes_Check.ent] at h
  split at h
  · rename_i hz; have h0 := Option.some.inj h; have h1 := congrArg Prod.fst h0; have h2 := congrArg Prod.snd h0; dsimp only at h1 h2; subst h2; exact FnSpec.of_freeze hz (classes_Check.spec N _ a h1)
  · cases h
/-! parquet/classes.forms: function 31 -/
noncomputable def classes_forms.l7 {R : Type} (N : Nat) : Nat → Int → Int → Int → Int → List (List Int) → List Int → (Int → Int → List (List Int) → List Int → Option R) → Option R
  | 0, _, _, _, _, _, _, _ => none
  | n + 1, x6, x7, x8, x9, x10, x11, k2 =>
    bif decide ((wi64 (x9 * x9)) ≤ x8) then
      bif !(x9 == 0) then
        bif (Int.tmod x8 x9) != 0 then
          classes_forms.l7 N n x6 x7 x8 (wi64 (x9 + 1)) x10 x11 k2
        else
        bif !(x9 == 0) then
          (binary_Content.f N x9 x7 (wi64 (Int.tdiv x8 x9))).bind fun r12 =>
          bif decide (x7 > 0) then
            bif decide (x7 < x9) then
              bif decide (x9 < (wi64 (Int.tdiv x8 x9))) then
                classes_forms.l7 N n x6 x7 x8 (wi64 (x9 + 1)) (mputK [x9, wi64 (0 - x7), wi64 (Int.tdiv x8 x9)] (mputK [x9, x7, wi64 (Int.tdiv x8 x9)] x10)) (mput [x9, wi64 (0 - x7), wi64 (Int.tdiv x8 x9)] (mgetI [x9, x7, wi64 (Int.tdiv x8 x9)] (mputK [x9, x7, wi64 (Int.tdiv x8 x9)] x10) (mput [x9, x7, wi64 (Int.tdiv x8 x9)] r12 x10 x11)) (mputK [x9, x7, wi64 (Int.tdiv x8 x9)] x10) (mput [x9, x7, wi64 (Int.tdiv x8 x9)] r12 x10 x11)) k2
              else
              classes_forms.l7 N n x6 x7 x8 (wi64 (x9 + 1)) (mputK [x9, x7, wi64 (Int.tdiv x8 x9)] x10) (mput [x9, x7, wi64 (Int.tdiv x8 x9)] r12 x10 x11) k2
            else
            classes_forms.l7 N n x6 x7 x8 (wi64 (x9 + 1)) (mputK [x9, x7, wi64 (Int.tdiv x8 x9)] x10) (mput [x9, x7, wi64 (Int.tdiv x8 x9)] r12 x10 x11) k2
          else
          classes_forms.l7 N n x6 x7 x8 (wi64 (x9 + 1)) (mputK [x9, x7, wi64 (Int.tdiv x8 x9)] x10) (mput [x9, x7, wi64 (Int.tdiv x8 x9)] r12 x10 x11) k2
        else none
      else none
    else
    k2 x6 x7 x10 x11
noncomputable def classes_forms.l3 {R : Type} (N : Nat) : Nat → Int → Int → List (List Int) → List Int → (List (List Int) → List Int → Option R) → Option R
  | 0, _, _, _, _, _ => none
  | n + 1, x2, x3, x4, x5, k0 =>
    bif decide ((wi64 ((wi64 (3 * x3)) * x3)) ≤ (wi64 (0 - x2))) then
      classes_forms.l7 N N x2 x3 (wi64 (Int.tdiv (wi64 ((wi64 (x3 * x3)) - x2)) 4)) (mx2 x3 1) x4 x5
        (fun y17 y18 y19 y20 =>
          classes_forms.l3 N n y17 (wi64 (y18 + 2)) y19 y20 k0)
    else
    k0 x4 x5
noncomputable def classes_forms.f (N : Nat) (a1 : Int) : Option (List (List Int) × List Int) :=
  classes_forms.l3 N N a1 (Int.tmod (wi64 (0 - a1)) 2) [] []
    (fun y23 y24 =>
      some (y23, y24))
noncomputable def classes_forms.body : Code := (Try.f31.body).getD .skip
noncomputable def classes_forms.ty : List (Nat × TI) := [(2, ty2), (33, ty33), (53, ty53)]
noncomputable def classes_forms.h3 : Hint := ⟨[(0, .any), (3, .any), (4, .any)], [(3, .any)]⟩
noncomputable def classes_forms.h7 : Hint := ⟨[(0, .any), (3, .any), (4, .any), (5, .any), (6, .any)], [(0, .any), (3, .any), (4, .any)]⟩
noncomputable def classes_forms.c7 (N : Nat) : Cut := ⟨fun vs H k => match vs, H with
  | [.c (.int .i64 x6), .mref 0, .c (.int .i64 x7), .c (.int .i64 x8), .c (.int .i64 x9)], [.mp .i64 3 x10 (.ints .i64 x11)] => classes_forms.l7 N N x6 x7 x8 x9 x10 x11 (fun x13 x14 x15 x16 => k (.exit 2) ⟨mkT classes_forms.h7.out [.c (.int .i64 x13), .mref 0, .c (.int .i64 x14)], [.mp .i64 3 x15 (.ints .i64 x16)]⟩)
  | _, _ => none⟩
noncomputable def classes_forms.c3 (N : Nat) : Cut := ⟨fun vs H k => match vs, H with
  | [.c (.int .i64 x2), .mref 0, .c (.int .i64 x3)], [.mp .i64 3 x4 (.ints .i64 x5)] => classes_forms.l3 N N x2 x3 x4 x5 (fun x21 x22 => k (.exit 0) ⟨mkT classes_forms.h3.out [.mref 0], [.mp .i64 3 x21 (.ints .i64 x22)]⟩)
  | _, _ => none⟩
noncomputable def classes_forms.E (N : Nat) : Env := { ty := lookN classes_forms.ty, tab := lookN [(33, binary_Content.ent N)], hint := lookN [(3, classes_forms.h3), (7, classes_forms.h7)], cut := lookN [(7, classes_forms.c7 N), (3, classes_forms.c3 N)], N := N, res := [.tmp 2], rsh := [.any], nb := 0, ntmps := 74, own := true }
noncomputable def classes_forms.b7 : Code := inner ((subLoops classes_forms.body).getD 1 .skip)
set_option maxRecDepth 100000 in
theorem classes_forms.l7_eq {R : Type} (N n : Nat) (x6 : Int) (x7 : Int) (x8 : Int) (x9 : Int) (x10 : List (List Int)) (x11 : List Int) (k : Ex → St → Option R) :
    evLoop 0 classes_forms.h7 (fun s k => evCode (classes_forms.E N) 387 classes_forms.b7 s k) n [.c (.int .i64 x6), .mref 0, .c (.int .i64 x7), .c (.int .i64 x8), .c (.int .i64 x9)] [.mp .i64 3 x10 (.ints .i64 x11)] k = classes_forms.l7 N n x6 x7 x8 x9 x10 x11 (fun x13 x14 x15 x16 => k (.exit 2) ⟨mkT classes_forms.h7.out [.c (.int .i64 x13), .mref 0, .c (.int .i64 x14)], [.mp .i64 3 x15 (.ints .i64 x16)]⟩) := by
  induction n generalizing x6 x7 x8 x9 x10 x11 with
  | zero => kernel_rfl
  | succ n ih =>
    simp only [classes_forms.l7, ← ih]
    kernel_rfl
noncomputable def classes_forms.b3 : Code := inner ((subLoops classes_forms.body).getD 0 .skip)
set_option maxRecDepth 100000 in
theorem classes_forms.l3_eq {R : Type} (N n : Nat) (x2 : Int) (x3 : Int) (x4 : List (List Int)) (x5 : List Int) (k : Ex → St → Option R) :
    evLoop 0 classes_forms.h3 (fun s k => evCode (classes_forms.E N) 394 classes_forms.b3 s k) n [.c (.int .i64 x2), .mref 0, .c (.int .i64 x3)] [.mp .i64 3 x4 (.ints .i64 x5)] k = classes_forms.l3 N n x2 x3 x4 x5 (fun x21 x22 => k (.exit 0) ⟨mkT classes_forms.h3.out [.mref 0], [.mp .i64 3 x21 (.ints .i64 x22)]⟩) := by
  induction n generalizing x2 x3 x4 x5 with
  | zero => kernel_rfl
  | succ n ih =>
    simp only [classes_forms.l3, ← ih]
    kernel_rfl
noncomputable def classes_forms.dec (v : V) (bs : List Blk) : Option (List (List Int) × List Int) := match v, bs with
  | .mref 0, [.mp .i64 3 z0 (.ints .i64 z1)] => some (z0, z1)
  | _, _ => none
set_option maxRecDepth 100000 in
theorem classes_forms.f_eq (N : Nat) (a1 : Int) :
    evFun (classes_forms.E N) classes_forms.body [.c (.int .i64 a1)] [] classes_forms.dec = classes_forms.f N a1 := by kernel_rfl
noncomputable def classes_forms.ent (N : Nat) : Entry := { A := List (List Int) × List Int, fresh := 1, imm := [true], dec := fun args bs => match freezeL 0 (fun _ => .dead) [.any] args, bs with
  | some [.c (.int .i64 a1)], [] => some (classes_forms.f N a1, fun r => .one (.mref 0) [.mp .i64 3 r.1 (.ints .i64 r.2)])
  | _, _ => none }
theorem classes_forms.env (N : Nat) : EnvOK Try.prog (classes_forms.E N) := ⟨(TyOK.cons ty2_ok (TyOK.cons ty33_ok (TyOK.cons ty53_ok TyOK.nil))), (TabOK.cons (binary_Content.ent_ok N) TabOK.nil)⟩
theorem classes_forms.res_eq (N : Nat) : (classes_forms.E N).res = Try.f31.results.toList := by kernel_rfl
theorem classes_forms.k7 (N : Nat) : CutOK Try.prog Try.f31 (classes_forms.E N) (.loop classes_forms.b7) := by
  intro e hd he hh R vs H k r h
  have e1 : (classes_forms.E N).cut (loopKey classes_forms.b7) = some (classes_forms.c7 N) := by kernel_rfl
  have e2 : (classes_forms.E N).hint (loopKey classes_forms.b7) = some classes_forms.h7 := by kernel_rfl
  rw [e1] at he; rw [e2] at hh; cases he; cases hh
  unfold classes_forms.c7 at h; dsimp only at h
  split at h
  · rw [← classes_forms.l7_eq] at h
    exact loop_ok (evCode_ok (classes_forms.env N) Try_mixed (classes_forms.res_eq N) 387 classes_forms.b7 (AllCut.of (l := []) (by kernel_rfl) AllCut.nil)) h
  · cases h
theorem classes_forms.k3 (N : Nat) : CutOK Try.prog Try.f31 (classes_forms.E N) (.loop classes_forms.b3) := by
  intro e hd he hh R vs H k r h
  have e1 : (classes_forms.E N).cut (loopKey classes_forms.b3) = some (classes_forms.c3 N) := by kernel_rfl
  have e2 : (classes_forms.E N).hint (loopKey classes_forms.b3) = some classes_forms.h3 := by kernel_rfl
  rw [e1] at he; rw [e2] at hh; cases he; cases hh
  unfold classes_forms.c3 at h; dsimp only at h
  split at h
  · rw [← classes_forms.l3_eq] at h
    exact loop_ok (evCode_ok (classes_forms.env N) Try_mixed (classes_forms.res_eq N) 394 classes_forms.b3 (AllCut.of (l := [(.loop (inner ((subLoops classes_forms.body).getD 1 .skip)))]) (by kernel_rfl) (AllCut.cons (classes_forms.k7 N) AllCut.nil))) h
  · cases h
theorem classes_forms.spec (N : Nat) (a1 : Int) (r : List (List Int) × List Int) (h : classes_forms.f N a1 = some r) : FnSpec Try.prog 31 [.c (.int .i64 a1)] [] (.mref 0) ([.mp .i64 3 r.1 (.ints .i64 r.2)]) := by
  rw [← classes_forms.f_eq] at h
  refine (evFun_ok (classes_forms.env N) Try_mixed Try.func31 (by kernel_rfl : Try.f31.body = some classes_forms.body) (by kernel_rfl) (classes_forms.res_eq N) (by kernel_rfl) (by kernel_rfl) (Nat.le_of_ble_eq_true (by kernel_rfl)) (AllCut.of (l := [(.loop (inner ((subLoops classes_forms.body).getD 0 .skip))), (.loop (inner ((subLoops classes_forms.body).getD 1 .skip)))]) (by kernel_rfl) (AllCut.cons (classes_forms.k3 N) (AllCut.cons (classes_forms.k7 N) AllCut.nil))) h).of fun v bs' h1 => ?_
  unfold classes_forms.dec at h1; split at h1
  · cases h1; exact ⟨rfl, rfl⟩
  · cases h1
theorem classes_forms.ent_ok (N : Nat) : TabOK1 Try.prog 31 (classes_forms.ent N) := by
  intro args bs a enc h
  simp only [classes_forms.ent] at h
  split at h
  · rename_i hz; have h0 := Option.some.inj h; have h1 := congrArg Prod.fst h0; have h2 := congrArg Prod.snd h0; dsimp only at h1 h2; subst h2; exact FnSpec.of_freeze hz (classes_forms.spec N _ a h1)
  · cases h
/-! slices.Index[[]parquet/api.Binary,parquet/api.Binary]: function 34 -/
noncomputable def slices_Index___parquet_api_Binary_parquet_api_Binary_.l2 {R : Type} (N : Nat) : Nat → List Int → Int → Int → Int → Int → Int → (Unit → Option R) → (Int → Option R) → Option R
  | 0, _, _, _, _, _, _, _, _ => none
  | n + 1, x5, x6, x7, x8, x9, x10, k0, kr =>
    bif decide (x7 < x6) then
      bif (decide (0 ≤ x7)) && (decide (x7 < (x5.length / 3 : Int))) then
        bif (x8 == (x5.getD (x7.toNat * 3) 0)) && ((x9 == (x5.getD ((x7.toNat * 3) + 1) 0)) && (x10 == (x5.getD ((x7.toNat * 3) + 2) 0))) then
          kr x7
        else
        slices_Index___parquet_api_Binary_parquet_api_Binary_.l2 N n x5 x6 (wi64 (x7 + 1)) x8 x9 x10 k0 kr
      else none
    else
    k0 ()
noncomputable def slices_Index___parquet_api_Binary_parquet_api_Binary_.f (N : Nat) (a1 : List Int) (a2 : Int) (a3 : Int) (a4 : Int) : Option (Int) :=
  slices_Index___parquet_api_Binary_parquet_api_Binary_.l2 N N a1 (a1.length / 3 : Int) 0 a2 a3 a4
    (fun (_ : Unit) =>
      some (-1))
    (fun y12 =>
      some y12)
noncomputable def slices_Index___parquet_api_Binary_parquet_api_Binary_.body : Code := (Try.f34.body).getD .skip
noncomputable def slices_Index___parquet_api_Binary_parquet_api_Binary_.ty : List (Nat × TI) := [(2, ty2), (22, ty22), (33, ty33)]
noncomputable def slices_Index___parquet_api_Binary_parquet_api_Binary_.h2 : Hint := ⟨[(0, .il .i64 3), (3, .box [.any, .any, .any]), (7, .any), (8, .any)], []⟩
noncomputable def slices_Index___parquet_api_Binary_parquet_api_Binary_.c2 (N : Nat) : Cut := ⟨fun vs H k => match vs, H with
  | [.il .i64 3 x5, .ptr 0 0 3, .c (.int .i64 x6), .c (.int .i64 x7)], [.vals [.c (.int .i64 x8), .c (.int .i64 x9), .c (.int .i64 x10)]] => slices_Index___parquet_api_Binary_parquet_api_Binary_.l2 N N x5 x6 x7 x8 x9 x10 (fun (_ : Unit) => k (.exit 0) ⟨mkT slices_Index___parquet_api_Binary_parquet_api_Binary_.h2.out [], []⟩) (fun x11 => k (.ret (.c (.int .i64 x11)) []) .nil)
  | _, _ => none⟩
noncomputable def slices_Index___parquet_api_Binary_parquet_api_Binary_.E (N : Nat) : Env := { ty := lookN slices_Index___parquet_api_Binary_parquet_api_Binary_.ty, tab := lookN [], hint := lookN [(2, slices_Index___parquet_api_Binary_parquet_api_Binary_.h2)], cut := lookN [(2, slices_Index___parquet_api_Binary_parquet_api_Binary_.c2 N)], N := N, res := [.tmp 4], rsh := [.any], nb := 0, ntmps := 19, own := false }
noncomputable def slices_Index___parquet_api_Binary_parquet_api_Binary_.b2 : Code := inner ((subLoops slices_Index___parquet_api_Binary_parquet_api_Binary_.body).getD 0 .skip)
set_option maxRecDepth 100000 in
theorem slices_Index___parquet_api_Binary_parquet_api_Binary_.l2_eq {R : Type} (N n : Nat) (x5 : List Int) (x6 : Int) (x7 : Int) (x8 : Int) (x9 : Int) (x10 : Int) (k : Ex → St → Option R) :
    evLoop 0 slices_Index___parquet_api_Binary_parquet_api_Binary_.h2 (fun s k => evCode (slices_Index___parquet_api_Binary_parquet_api_Binary_.E N) 395 slices_Index___parquet_api_Binary_parquet_api_Binary_.b2 s k) n [.il .i64 3 x5, .ptr 0 0 3, .c (.int .i64 x6), .c (.int .i64 x7)] [.vals [.c (.int .i64 x8), .c (.int .i64 x9), .c (.int .i64 x10)]] k = slices_Index___parquet_api_Binary_parquet_api_Binary_.l2 N n x5 x6 x7 x8 x9 x10 (fun (_ : Unit) => k (.exit 0) ⟨mkT slices_Index___parquet_api_Binary_parquet_api_Binary_.h2.out [], []⟩) (fun x11 => k (.ret (.c (.int .i64 x11)) []) .nil) := by
  induction n generalizing x5 x6 x7 x8 x9 x10 with
  | zero => kernel_rfl
  | succ n ih =>
    simp only [slices_Index___parquet_api_Binary_parquet_api_Binary_.l2, ← ih]
    kernel_rfl
noncomputable def slices_Index___parquet_api_Binary_parquet_api_Binary_.dec (v : V) (bs : List Blk) : Option (Int) := match v, bs with
  | .c (.int .i64 z0), [] => some z0
  | _, _ => none
set_option maxRecDepth 100000 in
theorem slices_Index___parquet_api_Binary_parquet_api_Binary_.f_eq (N : Nat) (a1 : List Int) (a2 : Int) (a3 : Int) (a4 : Int) :
    evFun (slices_Index___parquet_api_Binary_parquet_api_Binary_.E N) slices_Index___parquet_api_Binary_parquet_api_Binary_.body [.il .i64 3 a1, .agg [.c (.int .i64 a2), .c (.int .i64 a3), .c (.int .i64 a4)]] [] slices_Index___parquet_api_Binary_parquet_api_Binary_.dec = slices_Index___parquet_api_Binary_parquet_api_Binary_.f N a1 a2 a3 a4 := by kernel_rfl
noncomputable def slices_Index___parquet_api_Binary_parquet_api_Binary_.ent (N : Nat) : Entry := { A := Int, fresh := 0, imm := [true, true], dec := fun args bs => match freezeL 0 (fun _ => .dead) [.il .i64 3, .recd [.any, .any, .any]] args, bs with
  | some [.il .i64 3 a1, .agg [.c (.int .i64 a2), .c (.int .i64 a3), .c (.int .i64 a4)]], [] => some (slices_Index___parquet_api_Binary_parquet_api_Binary_.f N a1 a2 a3 a4, fun r => .one (.c (.int .i64 r)) [])
  | _, _ => none }
theorem slices_Index___parquet_api_Binary_parquet_api_Binary_.env (N : Nat) : EnvOK Try.prog (slices_Index___parquet_api_Binary_parquet_api_Binary_.E N) := ⟨(TyOK.cons ty2_ok (TyOK.cons ty22_ok (TyOK.cons ty33_ok TyOK.nil))), TabOK.nil⟩
theorem slices_Index___parquet_api_Binary_parquet_api_Binary_.res_eq (N : Nat) : (slices_Index___parquet_api_Binary_parquet_api_Binary_.E N).res = Try.f34.results.toList := by kernel_rfl
theorem slices_Index___parquet_api_Binary_parquet_api_Binary_.k2 (N : Nat) : CutOK Try.prog Try.f34 (slices_Index___parquet_api_Binary_parquet_api_Binary_.E N) (.loop slices_Index___parquet_api_Binary_parquet_api_Binary_.b2) := by
  intro e hd he hh R vs H k r h
  have e1 : (slices_Index___parquet_api_Binary_parquet_api_Binary_.E N).cut (loopKey slices_Index___parquet_api_Binary_parquet_api_Binary_.b2) = some (slices_Index___parquet_api_Binary_parquet_api_Binary_.c2 N) := by kernel_rfl
  have e2 : (slices_Index___parquet_api_Binary_parquet_api_Binary_.E N).hint (loopKey slices_Index___parquet_api_Binary_parquet_api_Binary_.b2) = some slices_Index___parquet_api_Binary_parquet_api_Binary_.h2 := by kernel_rfl
  rw [e1] at he; rw [e2] at hh; cases he; cases hh
  unfold slices_Index___parquet_api_Binary_parquet_api_Binary_.c2 at h; dsimp only at h
  split at h
  · rw [← slices_Index___parquet_api_Binary_parquet_api_Binary_.l2_eq] at h
    exact loop_ok (evCode_ok (slices_Index___parquet_api_Binary_parquet_api_Binary_.env N) Try_mixed (slices_Index___parquet_api_Binary_parquet_api_Binary_.res_eq N) 395 slices_Index___parquet_api_Binary_parquet_api_Binary_.b2 (AllCut.of (l := []) (by kernel_rfl) AllCut.nil)) h
  · cases h
theorem slices_Index___parquet_api_Binary_parquet_api_Binary_.spec (N : Nat) (a1 : List Int) (a2 : Int) (a3 : Int) (a4 : Int) (r : Int) (h : slices_Index___parquet_api_Binary_parquet_api_Binary_.f N a1 a2 a3 a4 = some r) : FnSpec Try.prog 34 [.il .i64 3 a1, .agg [.c (.int .i64 a2), .c (.int .i64 a3), .c (.int .i64 a4)]] [] (.c (.int .i64 r)) ([]) := by
  rw [← slices_Index___parquet_api_Binary_parquet_api_Binary_.f_eq] at h
  refine (evFun_ok (slices_Index___parquet_api_Binary_parquet_api_Binary_.env N) Try_mixed Try.func34 (by kernel_rfl : Try.f34.body = some slices_Index___parquet_api_Binary_parquet_api_Binary_.body) (by kernel_rfl) (slices_Index___parquet_api_Binary_parquet_api_Binary_.res_eq N) (by kernel_rfl) (by kernel_rfl) (Nat.le_of_ble_eq_true (by kernel_rfl)) (AllCut.of (l := [(.loop (inner ((subLoops slices_Index___parquet_api_Binary_parquet_api_Binary_.body).getD 0 .skip)))]) (by kernel_rfl) (AllCut.cons (slices_Index___parquet_api_Binary_parquet_api_Binary_.k2 N) AllCut.nil)) h).of fun v bs' h1 => ?_
  unfold slices_Index___parquet_api_Binary_parquet_api_Binary_.dec at h1; split at h1
  · cases h1; exact ⟨rfl, rfl⟩
  · cases h1
theorem slices_Index___parquet_api_Binary_parquet_api_Binary_.ent_ok (N : Nat) : TabOK1 Try.prog 34 (slices_Index___parquet_api_Binary_parquet_api_Binary_.ent N) := by
  intro args bs a enc h
  simp only [slices_Index___parquet_api_Binary_parquet_api_Binary_.ent] at h
  split at h
  · rename_i hz; have h0 := Option.some.inj h; have h1 := congrArg Prod.fst h0; have h2 := congrArg Prod.snd h0; dsimp only at h1 h2; subst h2; exact FnSpec.of_freeze hz (slices_Index___parquet_api_Binary_parquet_api_Binary_.spec N _ _ _ _ a h1)
  · cases h
/-! parquet/classes.Hurwitz$1: function 28 -/
noncomputable def classes_Hurwitz_1.f (N : Nat) (a1 : Int) (a2 : Int) (a3 : Int) : Option (Bool) :=
  bif a2 == 0 then
    some (a1 == a3)
  else
  some false
noncomputable def classes_Hurwitz_1.body : Code := (Try.f28.body).getD .skip
noncomputable def classes_Hurwitz_1.ty : List (Nat × TI) := [(2, ty2), (33, ty33)]
noncomputable def classes_Hurwitz_1.E (N : Nat) : Env := { ty := lookN classes_Hurwitz_1.ty, tab := lookN [], hint := lookN [], cut := lookN [], N := N, res := [.tmp 2], rsh := [.any], nb := 0, ntmps := 13, own := false }
noncomputable def classes_Hurwitz_1.dec (v : V) (bs : List Blk) : Option (Bool) := match v, bs with
  | .c (.bool z0), [] => some z0
  | _, _ => none
set_option maxRecDepth 100000 in
theorem classes_Hurwitz_1.f_eq (N : Nat) (a1 : Int) (a2 : Int) (a3 : Int) :
    evFun (classes_Hurwitz_1.E N) classes_Hurwitz_1.body [.agg [.c (.int .i64 a1), .c (.int .i64 a2), .c (.int .i64 a3)]] [] classes_Hurwitz_1.dec = classes_Hurwitz_1.f N a1 a2 a3 := by kernel_rfl
noncomputable def classes_Hurwitz_1.ent (N : Nat) : Entry := { A := Bool, fresh := 0, imm := [true], dec := fun args bs => match freezeL 0 (fun _ => .dead) [.recd [.any, .any, .any]] args, bs with
  | some [.agg [.c (.int .i64 a1), .c (.int .i64 a2), .c (.int .i64 a3)]], [] => some (classes_Hurwitz_1.f N a1 a2 a3, fun r => .one (.c (.bool r)) [])
  | _, _ => none }
theorem classes_Hurwitz_1.env (N : Nat) : EnvOK Try.prog (classes_Hurwitz_1.E N) := ⟨(TyOK.cons ty2_ok (TyOK.cons ty33_ok TyOK.nil)), TabOK.nil⟩
theorem classes_Hurwitz_1.res_eq (N : Nat) : (classes_Hurwitz_1.E N).res = Try.f28.results.toList := by kernel_rfl
theorem classes_Hurwitz_1.spec (N : Nat) (a1 : Int) (a2 : Int) (a3 : Int) (r : Bool) (h : classes_Hurwitz_1.f N a1 a2 a3 = some r) : FnSpec Try.prog 28 [.agg [.c (.int .i64 a1), .c (.int .i64 a2), .c (.int .i64 a3)]] [] (.c (.bool r)) ([]) := by
  rw [← classes_Hurwitz_1.f_eq] at h
  refine (evFun_ok (classes_Hurwitz_1.env N) Try_mixed Try.func28 (by kernel_rfl : Try.f28.body = some classes_Hurwitz_1.body) (by kernel_rfl) (classes_Hurwitz_1.res_eq N) (by kernel_rfl) (by kernel_rfl) (Nat.le_of_ble_eq_true (by kernel_rfl)) (AllCut.of (l := []) (by kernel_rfl) AllCut.nil) h).of fun v bs' h1 => ?_
  unfold classes_Hurwitz_1.dec at h1; split at h1
  · cases h1; exact ⟨rfl, rfl⟩
  · cases h1
theorem classes_Hurwitz_1.ent_ok (N : Nat) : TabOK1 Try.prog 28 (classes_Hurwitz_1.ent N) := by
  intro args bs a enc h
  simp only [classes_Hurwitz_1.ent] at h
  split at h
  · rename_i hz; have h0 := Option.some.inj h; have h1 := congrArg Prod.fst h0; have h2 := congrArg Prod.snd h0; dsimp only at h1 h2; subst h2; exact FnSpec.of_freeze hz (classes_Hurwitz_1.spec N _ _ _ a h1)
  · cases h
/-! parquet/classes.Hurwitz$2: function 29 -/
noncomputable def classes_Hurwitz_2.f (N : Nat) (a1 : Int) (a2 : Int) (a3 : Int) : Option (Bool) :=
  bif a1 == a2 then
    some (a1 == a3)
  else
  some false
noncomputable def classes_Hurwitz_2.body : Code := (Try.f29.body).getD .skip
noncomputable def classes_Hurwitz_2.ty : List (Nat × TI) := [(2, ty2), (33, ty33)]
noncomputable def classes_Hurwitz_2.E (N : Nat) : Env := { ty := lookN classes_Hurwitz_2.ty, tab := lookN [], hint := lookN [], cut := lookN [], N := N, res := [.tmp 2], rsh := [.any], nb := 0, ntmps := 15, own := false }
noncomputable def classes_Hurwitz_2.dec (v : V) (bs : List Blk) : Option (Bool) := match v, bs with
  | .c (.bool z0), [] => some z0
  | _, _ => none
set_option maxRecDepth 100000 in
theorem classes_Hurwitz_2.f_eq (N : Nat) (a1 : Int) (a2 : Int) (a3 : Int) :
    evFun (classes_Hurwitz_2.E N) classes_Hurwitz_2.body [.agg [.c (.int .i64 a1), .c (.int .i64 a2), .c (.int .i64 a3)]] [] classes_Hurwitz_2.dec = classes_Hurwitz_2.f N a1 a2 a3 := by kernel_rfl
noncomputable def classes_Hurwitz_2.ent (N : Nat) : Entry := { A := Bool, fresh := 0, imm := [true], dec := fun args bs => match freezeL 0 (fun _ => .dead) [.recd [.any, .any, .any]] args, bs with
  | some [.agg [.c (.int .i64 a1), .c (.int .i64 a2), .c (.int .i64 a3)]], [] => some (classes_Hurwitz_2.f N a1 a2 a3, fun r => .one (.c (.bool r)) [])
  | _, _ => none }
theorem classes_Hurwitz_2.env (N : Nat) : EnvOK Try.prog (classes_Hurwitz_2.E N) := ⟨(TyOK.cons ty2_ok (TyOK.cons ty33_ok TyOK.nil)), TabOK.nil⟩
theorem classes_Hurwitz_2.res_eq (N : Nat) : (classes_Hurwitz_2.E N).res = Try.f29.results.toList := by kernel_rfl
theorem classes_Hurwitz_2.spec (N : Nat) (a1 : Int) (a2 : Int) (a3 : Int) (r : Bool) (h : classes_Hurwitz_2.f N a1 a2 a3 = some r) : FnSpec Try.prog 29 [.agg [.c (.int .i64 a1), .c (.int .i64 a2), .c (.int .i64 a3)]] [] (.c (.bool r)) ([]) := by
  rw [← classes_Hurwitz_2.f_eq] at h
  refine (evFun_ok (classes_Hurwitz_2.env N) Try_mixed Try.func29 (by kernel_rfl : Try.f29.body = some classes_Hurwitz_2.body) (by kernel_rfl) (classes_Hurwitz_2.res_eq N) (by kernel_rfl) (by kernel_rfl) (Nat.le_of_ble_eq_true (by kernel_rfl)) (AllCut.of (l := []) (by kernel_rfl) AllCut.nil) h).of fun v bs' h1 => ?_
  unfold classes_Hurwitz_2.dec at h1; split at h1
  · cases h1; exact ⟨rfl, rfl⟩
  · cases h1
theorem classes_Hurwitz_2.ent_ok (N : Nat) : TabOK1 Try.prog 29 (classes_Hurwitz_2.ent N) := by
  intro args bs a enc h
  simp only [classes_Hurwitz_2.ent] at h
  split at h
  · rename_i hz; have h0 := Option.some.inj h; have h1 := congrArg Prod.fst h0; have h2 := congrArg Prod.snd h0; dsimp only at h1 h2; subst h2; exact FnSpec.of_freeze hz (classes_Hurwitz_2.spec N _ _ _ a h1)
  · cases h
/-! parquet/classes.Hurwitz$3: function 30 -/
noncomputable def classes_Hurwitz_3.f (N : Nat) (a1 : Int) (a2 : Int) (a3 : Int) : Option (Bool) :=
  some true
noncomputable def classes_Hurwitz_3.body : Code := (Try.f30.body).getD .skip
noncomputable def classes_Hurwitz_3.ty : List (Nat × TI) := [(33, ty33)]
noncomputable def classes_Hurwitz_3.E (N : Nat) : Env := { ty := lookN classes_Hurwitz_3.ty, tab := lookN [], hint := lookN [], cut := lookN [], N := N, res := [.tmp 2], rsh := [.any], nb := 0, ntmps := 3, own := false }
noncomputable def classes_Hurwitz_3.dec (v : V) (bs : List Blk) : Option (Bool) := match v, bs with
  | .c (.bool z0), [] => some z0
  | _, _ => none
set_option maxRecDepth 100000 in
theorem classes_Hurwitz_3.f_eq (N : Nat) (a1 : Int) (a2 : Int) (a3 : Int) :
    evFun (classes_Hurwitz_3.E N) classes_Hurwitz_3.body [.agg [.c (.int .i64 a1), .c (.int .i64 a2), .c (.int .i64 a3)]] [] classes_Hurwitz_3.dec = classes_Hurwitz_3.f N a1 a2 a3 := by kernel_rfl
noncomputable def classes_Hurwitz_3.ent (N : Nat) : Entry := { A := Bool, fresh := 0, imm := [true], dec := fun args bs => match freezeL 0 (fun _ => .dead) [.recd [.any, .any, .any]] args, bs with
  | some [.agg [.c (.int .i64 a1), .c (.int .i64 a2), .c (.int .i64 a3)]], [] => some (classes_Hurwitz_3.f N a1 a2 a3, fun r => .one (.c (.bool r)) [])
  | _, _ => none }
theorem classes_Hurwitz_3.env (N : Nat) : EnvOK Try.prog (classes_Hurwitz_3.E N) := ⟨(TyOK.cons ty33_ok TyOK.nil), TabOK.nil⟩
theorem classes_Hurwitz_3.res_eq (N : Nat) : (classes_Hurwitz_3.E N).res = Try.f30.results.toList := by kernel_rfl
theorem classes_Hurwitz_3.spec (N : Nat) (a1 : Int) (a2 : Int) (a3 : Int) (r : Bool) (h : classes_Hurwitz_3.f N a1 a2 a3 = some r) : FnSpec Try.prog 30 [.agg [.c (.int .i64 a1), .c (.int .i64 a2), .c (.int .i64 a3)]] [] (.c (.bool r)) ([]) := by
  rw [← classes_Hurwitz_3.f_eq] at h
  refine (evFun_ok (classes_Hurwitz_3.env N) Try_mixed Try.func30 (by kernel_rfl : Try.f30.body = some classes_Hurwitz_3.body) (by kernel_rfl) (classes_Hurwitz_3.res_eq N) (by kernel_rfl) (by kernel_rfl) (Nat.le_of_ble_eq_true (by kernel_rfl)) (AllCut.of (l := []) (by kernel_rfl) AllCut.nil) h).of fun v bs' h1 => ?_
  unfold classes_Hurwitz_3.dec at h1; split at h1
  · cases h1; exact ⟨rfl, rfl⟩
  · cases h1
theorem classes_Hurwitz_3.ent_ok (N : Nat) : TabOK1 Try.prog 30 (classes_Hurwitz_3.ent N) := by
  intro args bs a enc h
  simp only [classes_Hurwitz_3.ent] at h
  split at h
  · rename_i hz; have h0 := Option.some.inj h; have h1 := congrArg Prod.fst h0; have h2 := congrArg Prod.snd h0; dsimp only at h1 h2; subst h2; exact FnSpec.of_freeze hz (classes_Hurwitz_3.spec N _ _ _ a h1)
  · cases h
/-! parquet/classes.Hurwitz: function 16 -/
noncomputable def classes_Hurwitz.l10 {R : Type} (N : Nat) : Nat → Int → Int → Int → Int → List (List Int) → List Int → List Nat → Nat → (Int → Option R) → Option R
  | 0, _, _, _, _, _, _, _, _, _ => none
  | n + 1, x3, x4, x5, x6, x7, x8, x9, x10, k1 =>
    bif x9.isEmpty then
      k1 x3
    else
    demon x9.length fun x12 =>
    bif Nat.blt (x9.getD x12 0) x7.length then
      (classes_Hurwitz_1.f N ((x7.getD (x9.getD x12 0) []).getD 0 0) ((x7.getD (x9.getD x12 0) []).getD 1 0) ((x7.getD (x9.getD x12 0) []).getD 2 0)).bind fun r13 =>
      bif r13 then
        classes_Hurwitz.l10 N n (wi64 (x3 + x4)) x4 x5 x6 x7 x8 (x9.eraseIdx x12) (x9.getD x12 0) k1
      else
      (classes_Hurwitz_2.f N ((x7.getD (x9.getD x12 0) []).getD 0 0) ((x7.getD (x9.getD x12 0) []).getD 1 0) ((x7.getD (x9.getD x12 0) []).getD 2 0)).bind fun r14 =>
      bif r14 then
        classes_Hurwitz.l10 N n (wi64 (x3 + x5)) x4 x5 x6 x7 x8 (x9.eraseIdx x12) (x9.getD x12 0) k1
      else
      (classes_Hurwitz_3.f N ((x7.getD (x9.getD x12 0) []).getD 0 0) ((x7.getD (x9.getD x12 0) []).getD 1 0) ((x7.getD (x9.getD x12 0) []).getD 2 0)).bind fun r15 =>
      bif r15 then
        classes_Hurwitz.l10 N n (wi64 (x3 + x6)) x4 x5 x6 x7 x8 (x9.eraseIdx x12) (x9.getD x12 0) k1
      else
      classes_Hurwitz.l10 N n x3 x4 x5 x6 x7 x8 (x9.eraseIdx x12) (x9.getD x12 0) k1
    else none
noncomputable def classes_Hurwitz.f (N : Nat) (a1 : Int) : Option (Int × Int) :=
  bif decide (a1 < 0) then
    some (0, 2)
  else
  bif decide (a1 > 65536) then
    some (0, 2)
  else
  bif a1 == 0 then
    some ((-1), 0)
  else
  bif (Int.tmod a1 4) == 1 then
    some (0, 0)
  else
  bif (Int.tmod a1 4) == 2 then
    some (0, 0)
  else
  (classes_forms.f N (wi64 (0 - a1))).bind fun r2 =>
  classes_Hurwitz.l10 N N 0 6 4 12 r2.1 r2.2 (List.range r2.1.length) r2.1.length
    (fun y16 =>
      some (y16, 0))
noncomputable def classes_Hurwitz.body : Code := (Try.f16.body).getD .skip
noncomputable def classes_Hurwitz.ty : List (Nat × TI) := [(2, ty2), (33, ty33), (44, ty44), (51, ty51), (52, ty52), (53, ty53)]
noncomputable def classes_Hurwitz.h10 : Hint := ⟨[(4, .any), (5, .any), (35, .any)], [(5, .any)]⟩
noncomputable def classes_Hurwitz.h13 : Hint := ⟨[(4, .any), (5, .any), (6, .box [.any, .any, .any]), (35, .any), (40, .any), (41, .any), (42, .any)], [(4, .any), (5, .any), (35, .any)]⟩
noncomputable def classes_Hurwitz.c10 (N : Nat) : Cut := ⟨fun vs H k => match vs, H with
  | [.sw 0 2, .c (.int .i64 x3), .ptr 1 0 0], [.vals [.fn 28 [] [], .c (.int .i64 x4), .fn 29 [] [], .c (.int .i64 x5), .fn 30 [] [], .c (.int .i64 x6)], .it .i64 3 x7 (.ints .i64 x8) x9 x10] => classes_Hurwitz.l10 N N x3 x4 x5 x6 x7 x8 x9 x10 (fun x11 => k (.exit 1) ⟨mkT classes_Hurwitz.h10.out [.c (.int .i64 x11)], []⟩)
  | _, _ => none⟩
noncomputable def classes_Hurwitz.E (N : Nat) : Env := { ty := lookN classes_Hurwitz.ty, tab := lookN [(31, classes_forms.ent N), (28, classes_Hurwitz_1.ent N), (29, classes_Hurwitz_2.ent N), (30, classes_Hurwitz_3.ent N)], hint := lookN [(10, classes_Hurwitz.h10), (13, classes_Hurwitz.h13)], cut := lookN [(10, classes_Hurwitz.c10 N)], N := 40, res := [.tmp 2, .tmp 3], rsh := [.any, .any], nb := 0, ntmps := 56, own := false }
noncomputable def classes_Hurwitz.b10 : Code := inner ((subLoops classes_Hurwitz.body).getD 0 .skip)
set_option maxRecDepth 100000 in
theorem classes_Hurwitz.l10_eq {R : Type} (N n : Nat) (x3 : Int) (x4 : Int) (x5 : Int) (x6 : Int) (x7 : List (List Int)) (x8 : List Int) (x9 : List Nat) (x10 : Nat) (k : Ex → St → Option R) :
    evLoop 0 classes_Hurwitz.h10 (fun s k => evCode (classes_Hurwitz.E N) 392 classes_Hurwitz.b10 s k) n [.sw 0 2, .c (.int .i64 x3), .ptr 1 0 0] [.vals [.fn 28 [] [], .c (.int .i64 x4), .fn 29 [] [], .c (.int .i64 x5), .fn 30 [] [], .c (.int .i64 x6)], .it .i64 3 x7 (.ints .i64 x8) x9 x10] k = classes_Hurwitz.l10 N n x3 x4 x5 x6 x7 x8 x9 x10 (fun x11 => k (.exit 1) ⟨mkT classes_Hurwitz.h10.out [.c (.int .i64 x11)], []⟩) := by
  induction n generalizing x3 x4 x5 x6 x7 x8 x9 x10 with
  | zero => kernel_rfl
  | succ n ih =>
    simp only [classes_Hurwitz.l10, ← ih]
    kernel_rfl
noncomputable def classes_Hurwitz.dec (v : V) (bs : List Blk) : Option (Int × Int) := match v, bs with
  | .tup [.c (.int .i64 z0), .c (.int .i64 z1)], [] => some (z0, z1)
  | _, _ => none
set_option maxRecDepth 100000 in
theorem classes_Hurwitz.f_eq (N : Nat) (a1 : Int) :
    evFun (classes_Hurwitz.E N) classes_Hurwitz.body [.c (.int .i64 a1)] [] classes_Hurwitz.dec = classes_Hurwitz.f N a1 := by kernel_rfl
noncomputable def classes_Hurwitz.ent (N : Nat) : Entry := { A := Int × Int, fresh := 0, imm := [true], dec := fun args bs => match freezeL 0 (fun _ => .dead) [.any] args, bs with
  | some [.c (.int .i64 a1)], [] => some (classes_Hurwitz.f N a1, fun r => .one (.tup [.c (.int .i64 r.1), .c (.int .i64 r.2)]) [])
  | _, _ => none }
theorem classes_Hurwitz.env (N : Nat) : EnvOK Try.prog (classes_Hurwitz.E N) := ⟨(TyOK.cons ty2_ok (TyOK.cons ty33_ok (TyOK.cons ty44_ok (TyOK.cons ty51_ok (TyOK.cons ty52_ok (TyOK.cons ty53_ok TyOK.nil)))))), (TabOK.cons (classes_forms.ent_ok N) (TabOK.cons (classes_Hurwitz_1.ent_ok N) (TabOK.cons (classes_Hurwitz_2.ent_ok N) (TabOK.cons (classes_Hurwitz_3.ent_ok N) TabOK.nil))))⟩
theorem classes_Hurwitz.res_eq (N : Nat) : (classes_Hurwitz.E N).res = Try.f16.results.toList := by kernel_rfl
theorem classes_Hurwitz.k10 (N : Nat) : CutOK Try.prog Try.f16 (classes_Hurwitz.E N) (.loop classes_Hurwitz.b10) := by
  intro e hd he hh R vs H k r h
  have e1 : (classes_Hurwitz.E N).cut (loopKey classes_Hurwitz.b10) = some (classes_Hurwitz.c10 N) := by kernel_rfl
  have e2 : (classes_Hurwitz.E N).hint (loopKey classes_Hurwitz.b10) = some classes_Hurwitz.h10 := by kernel_rfl
  rw [e1] at he; rw [e2] at hh; cases he; cases hh
  unfold classes_Hurwitz.c10 at h; dsimp only at h
  split at h
  · rw [← classes_Hurwitz.l10_eq] at h
    exact loop_ok (evCode_ok (classes_Hurwitz.env N) Try_mixed (classes_Hurwitz.res_eq N) 392 classes_Hurwitz.b10 (AllCut.of (l := [(.loop (inner ((subLoops classes_Hurwitz.body).getD 1 .skip)))]) (by kernel_rfl) (AllCut.cons (cut_loop (by kernel_rfl)) AllCut.nil))) h
  · cases h
theorem classes_Hurwitz.spec (N : Nat) (a1 : Int) (r : Int × Int) (h : classes_Hurwitz.f N a1 = some r) : FnSpec Try.prog 16 [.c (.int .i64 a1)] [] (.tup [.c (.int .i64 r.1), .c (.int .i64 r.2)]) ([]) := by
  rw [← classes_Hurwitz.f_eq] at h
  refine (evFun_ok (classes_Hurwitz.env N) Try_mixed Try.func16 (by kernel_rfl : Try.f16.body = some classes_Hurwitz.body) (by kernel_rfl) (classes_Hurwitz.res_eq N) (by kernel_rfl) (by kernel_rfl) (Nat.le_of_ble_eq_true (by kernel_rfl)) (AllCut.of (l := [(.loop (inner ((subLoops classes_Hurwitz.body).getD 0 .skip))), (.loop (inner ((subLoops classes_Hurwitz.body).getD 1 .skip)))]) (by kernel_rfl) (AllCut.cons (classes_Hurwitz.k10 N) (AllCut.cons (cut_loop (by kernel_rfl)) AllCut.nil))) h).of fun v bs' h1 => ?_
  unfold classes_Hurwitz.dec at h1; split at h1
  · cases h1; exact ⟨rfl, rfl⟩
  · cases h1
theorem classes_Hurwitz.ent_ok (N : Nat) : TabOK1 Try.prog 16 (classes_Hurwitz.ent N) := by
  intro args bs a enc h
  simp only [classes_Hurwitz.ent] at h
  split at h
  · rename_i hz; have h0 := Option.some.inj h; have h1 := congrArg Prod.fst h0; have h2 := congrArg Prod.snd h0; dsimp only at h1 h2; subst h2; exact FnSpec.of_freeze hz (classes_Hurwitz.spec N _ a h1)
  · cases h
/-! parquet/parquetref11.Check: function 11 -/
noncomputable def parquetref11_Check.f (N : Nat) (a1 : Int) : Option (Int) :=
  bif decide (a1 > (-3)) then
    some 80
  else
  bif decide (a1 < (-65536)) then
    some 80
  else
  bif (Int.tmod (wi64 (0 - a1)) 4) != 0 then
    bif (Int.tmod (wi64 (0 - a1)) 4) != 3 then
      some 80
    else
    some 0
  else
  some 0
noncomputable def parquetref11_Check.body : Code := (Try.f11.body).getD .skip
noncomputable def parquetref11_Check.ty : List (Nat × TI) := []
noncomputable def parquetref11_Check.E (N : Nat) : Env := { ty := lookN parquetref11_Check.ty, tab := lookN [], hint := lookN [], cut := lookN [], N := N, res := [.tmp 2], rsh := [.any], nb := 0, ntmps := 21, own := false }
noncomputable def parquetref11_Check.dec (v : V) (bs : List Blk) : Option (Int) := match v, bs with
  | .c (.int .i64 z0), [] => some z0
  | _, _ => none
set_option maxRecDepth 100000 in
theorem parquetref11_Check.f_eq (N : Nat) (a1 : Int) :
    evFun (parquetref11_Check.E N) parquetref11_Check.body [.c (.int .i64 a1)] [] parquetref11_Check.dec = parquetref11_Check.f N a1 := by kernel_rfl
noncomputable def parquetref11_Check.ent (N : Nat) : Entry := { A := Int, fresh := 0, imm := [true], dec := fun args bs => match freezeL 0 (fun _ => .dead) [.any] args, bs with
  | some [.c (.int .i64 a1)], [] => some (parquetref11_Check.f N a1, fun r => .one (.c (.int .i64 r)) [])
  | _, _ => none }
theorem parquetref11_Check.env (N : Nat) : EnvOK Try.prog (parquetref11_Check.E N) := ⟨TyOK.nil, TabOK.nil⟩
theorem parquetref11_Check.res_eq (N : Nat) : (parquetref11_Check.E N).res = Try.f11.results.toList := by kernel_rfl
theorem parquetref11_Check.spec (N : Nat) (a1 : Int) (r : Int) (h : parquetref11_Check.f N a1 = some r) : FnSpec Try.prog 11 [.c (.int .i64 a1)] [] (.c (.int .i64 r)) ([]) := by
  rw [← parquetref11_Check.f_eq] at h
  refine (evFun_ok (parquetref11_Check.env N) Try_mixed Try.func11 (by kernel_rfl : Try.f11.body = some parquetref11_Check.body) (by kernel_rfl) (parquetref11_Check.res_eq N) (by kernel_rfl) (by kernel_rfl) (Nat.le_of_ble_eq_true (by kernel_rfl)) (AllCut.of (l := []) (by kernel_rfl) AllCut.nil) h).of fun v bs' h1 => ?_
  unfold parquetref11_Check.dec at h1; split at h1
  · cases h1; exact ⟨rfl, rfl⟩
  · cases h1
theorem parquetref11_Check.ent_ok (N : Nat) : TabOK1 Try.prog 11 (parquetref11_Check.ent N) := by
  intro args bs a enc h
  simp only [parquetref11_Check.ent] at h
  split at h
  · rename_i hz; have h0 := Option.some.inj h; have h1 := congrArg Prod.fst h0; have h2 := congrArg Prod.snd h0; dsimp only at h1 h2; subst h2; exact FnSpec.of_freeze hz (parquetref11_Check.spec N _ a h1)
  · cases h
/-! parquet/parquetref11.Gcd: function 39 -/
noncomputable def parquetref11_Gcd.l1 {R : Type} (N : Nat) : Nat → Int → Int → (Int → Option R) → Option R
  | 0, _, _, _ => none
  | n + 1, x3, x4, k0 =>
    bif decide (x4 > 0) then
      bif !(x4 == 0) then
        parquetref11_Gcd.l1 N n x4 (Int.tmod x3 x4) k0
      else none
    else
    k0 x3
noncomputable def parquetref11_Gcd.f (N : Nat) (a1 : Int) (a2 : Int) : Option (Int) :=
  parquetref11_Gcd.l1 N N a1 a2
    (fun y6 =>
      some y6)
noncomputable def parquetref11_Gcd.body : Code := (Try.f39.body).getD .skip
noncomputable def parquetref11_Gcd.ty : List (Nat × TI) := []
noncomputable def parquetref11_Gcd.h1 : Hint := ⟨[(0, .any), (1, .any)], [(0, .any)]⟩
noncomputable def parquetref11_Gcd.c1 (N : Nat) : Cut := ⟨fun vs H k => match vs, H with
  | [.c (.int .i64 x3), .c (.int .i64 x4)], [] => parquetref11_Gcd.l1 N N x3 x4 (fun x5 => k (.exit 0) ⟨mkT parquetref11_Gcd.h1.out [.c (.int .i64 x5)], []⟩)
  | _, _ => none⟩
noncomputable def parquetref11_Gcd.E (N : Nat) : Env := { ty := lookN parquetref11_Gcd.ty, tab := lookN [], hint := lookN [(1, parquetref11_Gcd.h1)], cut := lookN [(1, parquetref11_Gcd.c1 N)], N := N, res := [.tmp 4], rsh := [.any], nb := 0, ntmps := 14, own := false }
noncomputable def parquetref11_Gcd.b1 : Code := inner ((subLoops parquetref11_Gcd.body).getD 0 .skip)
set_option maxRecDepth 100000 in
theorem parquetref11_Gcd.l1_eq {R : Type} (N n : Nat) (x3 : Int) (x4 : Int) (k : Ex → St → Option R) :
    evLoop 0 parquetref11_Gcd.h1 (fun s k => evCode (parquetref11_Gcd.E N) 396 parquetref11_Gcd.b1 s k) n [.c (.int .i64 x3), .c (.int .i64 x4)] [] k = parquetref11_Gcd.l1 N n x3 x4 (fun x5 => k (.exit 0) ⟨mkT parquetref11_Gcd.h1.out [.c (.int .i64 x5)], []⟩) := by
  induction n generalizing x3 x4 with
  | zero => kernel_rfl
  | succ n ih =>
    simp only [parquetref11_Gcd.l1, ← ih]
    kernel_rfl
noncomputable def parquetref11_Gcd.dec (v : V) (bs : List Blk) : Option (Int) := match v, bs with
  | .c (.int .i64 z0), [] => some z0
  | _, _ => none
set_option maxRecDepth 100000 in
theorem parquetref11_Gcd.f_eq (N : Nat) (a1 : Int) (a2 : Int) :
    evFun (parquetref11_Gcd.E N) parquetref11_Gcd.body [.c (.int .i64 a1), .c (.int .i64 a2)] [] parquetref11_Gcd.dec = parquetref11_Gcd.f N a1 a2 := by kernel_rfl
noncomputable def parquetref11_Gcd.ent (N : Nat) : Entry := { A := Int, fresh := 0, imm := [true, true], dec := fun args bs => match freezeL 0 (fun _ => .dead) [.any, .any] args, bs with
  | some [.c (.int .i64 a1), .c (.int .i64 a2)], [] => some (parquetref11_Gcd.f N a1 a2, fun r => .one (.c (.int .i64 r)) [])
  | _, _ => none }
theorem parquetref11_Gcd.env (N : Nat) : EnvOK Try.prog (parquetref11_Gcd.E N) := ⟨TyOK.nil, TabOK.nil⟩
theorem parquetref11_Gcd.res_eq (N : Nat) : (parquetref11_Gcd.E N).res = Try.f39.results.toList := by kernel_rfl
theorem parquetref11_Gcd.k1 (N : Nat) : CutOK Try.prog Try.f39 (parquetref11_Gcd.E N) (.loop parquetref11_Gcd.b1) := by
  intro e hd he hh R vs H k r h
  have e1 : (parquetref11_Gcd.E N).cut (loopKey parquetref11_Gcd.b1) = some (parquetref11_Gcd.c1 N) := by kernel_rfl
  have e2 : (parquetref11_Gcd.E N).hint (loopKey parquetref11_Gcd.b1) = some parquetref11_Gcd.h1 := by kernel_rfl
  rw [e1] at he; rw [e2] at hh; cases he; cases hh
  unfold parquetref11_Gcd.c1 at h; dsimp only at h
  split at h
  · rw [← parquetref11_Gcd.l1_eq] at h
    exact loop_ok (evCode_ok (parquetref11_Gcd.env N) Try_mixed (parquetref11_Gcd.res_eq N) 396 parquetref11_Gcd.b1 (AllCut.of (l := []) (by kernel_rfl) AllCut.nil)) h
  · cases h
theorem parquetref11_Gcd.spec (N : Nat) (a1 : Int) (a2 : Int) (r : Int) (h : parquetref11_Gcd.f N a1 a2 = some r) : FnSpec Try.prog 39 [.c (.int .i64 a1), .c (.int .i64 a2)] [] (.c (.int .i64 r)) ([]) := by
  rw [← parquetref11_Gcd.f_eq] at h
  refine (evFun_ok (parquetref11_Gcd.env N) Try_mixed Try.func39 (by kernel_rfl : Try.f39.body = some parquetref11_Gcd.body) (by kernel_rfl) (parquetref11_Gcd.res_eq N) (by kernel_rfl) (by kernel_rfl) (Nat.le_of_ble_eq_true (by kernel_rfl)) (AllCut.of (l := [(.loop (inner ((subLoops parquetref11_Gcd.body).getD 0 .skip)))]) (by kernel_rfl) (AllCut.cons (parquetref11_Gcd.k1 N) AllCut.nil)) h).of fun v bs' h1 => ?_
  unfold parquetref11_Gcd.dec at h1; split at h1
  · cases h1; exact ⟨rfl, rfl⟩
  · cases h1
theorem parquetref11_Gcd.ent_ok (N : Nat) : TabOK1 Try.prog 39 (parquetref11_Gcd.ent N) := by
  intro args bs a enc h
  simp only [parquetref11_Gcd.ent] at h
  split at h
  · rename_i hz; have h0 := Option.some.inj h; have h1 := congrArg Prod.fst h0; have h2 := congrArg Prod.snd h0; dsimp only at h1 h2; subst h2; exact FnSpec.of_freeze hz (parquetref11_Gcd.spec N _ _ a h1)
  · cases h
/-! parquet/parquetref11.Content: function 21 -/
noncomputable def parquetref11_Content.f (N : Nat) (a1 : Int) (a2 : Int) (a3 : Int) : Option (Int) :=
  bif decide (a2 < 0) then
    (parquetref11_Gcd.f N a1 (wi64 (0 - a2))).bind fun r4 =>
    (parquetref11_Gcd.f N r4 a3).bind fun r5 =>
    some r5
  else
  (parquetref11_Gcd.f N a1 a2).bind fun r6 =>
  (parquetref11_Gcd.f N r6 a3).bind fun r7 =>
  some r7
noncomputable def parquetref11_Content.body : Code := (Try.f21.body).getD .skip
noncomputable def parquetref11_Content.ty : List (Nat × TI) := [(2, ty2), (33, ty33)]
noncomputable def parquetref11_Content.E (N : Nat) : Env := { ty := lookN parquetref11_Content.ty, tab := lookN [(39, parquetref11_Gcd.ent N)], hint := lookN [], cut := lookN [], N := N, res := [.tmp 2], rsh := [.any], nb := 0, ntmps := 17, own := false }
noncomputable def parquetref11_Content.dec (v : V) (bs : List Blk) : Option (Int) := match v, bs with
  | .c (.int .i64 z0), [] => some z0
  | _, _ => none
set_option maxRecDepth 100000 in
theorem parquetref11_Content.f_eq (N : Nat) (a1 : Int) (a2 : Int) (a3 : Int) :
    evFun (parquetref11_Content.E N) parquetref11_Content.body [.agg [.c (.int .i64 a1), .c (.int .i64 a2), .c (.int .i64 a3)]] [] parquetref11_Content.dec = parquetref11_Content.f N a1 a2 a3 := by kernel_rfl
noncomputable def parquetref11_Content.ent (N : Nat) : Entry := { A := Int, fresh := 0, imm := [true], dec := fun args bs => match freezeL 0 (fun _ => .dead) [.recd [.any, .any, .any]] args, bs with
  | some [.agg [.c (.int .i64 a1), .c (.int .i64 a2), .c (.int .i64 a3)]], [] => some (parquetref11_Content.f N a1 a2 a3, fun r => .one (.c (.int .i64 r)) [])
  | _, _ => none }
theorem parquetref11_Content.env (N : Nat) : EnvOK Try.prog (parquetref11_Content.E N) := ⟨(TyOK.cons ty2_ok (TyOK.cons ty33_ok TyOK.nil)), (TabOK.cons (parquetref11_Gcd.ent_ok N) TabOK.nil)⟩
theorem parquetref11_Content.res_eq (N : Nat) : (parquetref11_Content.E N).res = Try.f21.results.toList := by kernel_rfl
theorem parquetref11_Content.spec (N : Nat) (a1 : Int) (a2 : Int) (a3 : Int) (r : Int) (h : parquetref11_Content.f N a1 a2 a3 = some r) : FnSpec Try.prog 21 [.agg [.c (.int .i64 a1), .c (.int .i64 a2), .c (.int .i64 a3)]] [] (.c (.int .i64 r)) ([]) := by
  rw [← parquetref11_Content.f_eq] at h
  refine (evFun_ok (parquetref11_Content.env N) Try_mixed Try.func21 (by kernel_rfl : Try.f21.body = some parquetref11_Content.body) (by kernel_rfl) (parquetref11_Content.res_eq N) (by kernel_rfl) (by kernel_rfl) (Nat.le_of_ble_eq_true (by kernel_rfl)) (AllCut.of (l := []) (by kernel_rfl) AllCut.nil) h).of fun v bs' h1 => ?_
  unfold parquetref11_Content.dec at h1; split at h1
  · cases h1; exact ⟨rfl, rfl⟩
  · cases h1
theorem parquetref11_Content.ent_ok (N : Nat) : TabOK1 Try.prog 21 (parquetref11_Content.ent N) := by
  intro args bs a enc h
  simp only [parquetref11_Content.ent] at h
  split at h
  · rename_i hz; have h0 := Option.some.inj h; have h1 := congrArg Prod.fst h0; have h2 := congrArg Prod.snd h0; dsimp only at h1 h2; subst h2; exact FnSpec.of_freeze hz (parquetref11_Content.spec N _ _ _ a h1)
  · cases h
/-! parquet/parquetref11.Forms: function 27 -/
noncomputable def parquetref11_Forms.l6 {R : Type} (N : Nat) : Nat → Int → Int → Int → List Int → (Int → Int → List Int → Option R) → Option R
  | 0, _, _, _, _, _ => none
  | n + 1, x5, x6, x7, x8, k2 =>
    bif decide (x7 ≤ x6) then
      bif !((wi64 (4 * x6)) == 0) then
        bif (Int.tmod (wi64 ((wi64 (x7 * x7)) - x5)) (wi64 (4 * x6))) != 0 then
          parquetref11_Forms.l6 N n x5 x6 (wi64 (x7 + 1)) x8 k2
        else
        bif !((wi64 (4 * x6)) == 0) then
          bif decide ((wi64 (Int.tdiv (wi64 ((wi64 (x7 * x7)) - x5)) (wi64 (4 * x6)))) > x6) then
            bif roomy ((x8.length + 3) / 3) 24 then
              parquetref11_Forms.l6 N n x5 x6 (wi64 (x7 + 1)) (x8 ++ [x6, x7, wi64 (Int.tdiv (wi64 ((wi64 (x7 * x7)) - x5)) (wi64 (4 * x6)))]) k2
            else none
          else
          bif (wi64 (Int.tdiv (wi64 ((wi64 (x7 * x7)) - x5)) (wi64 (4 * x6)))) == x6 then
            bif decide (x7 ≥ 0) then
              bif roomy ((x8.length + 3) / 3) 24 then
                parquetref11_Forms.l6 N n x5 x6 (wi64 (x7 + 1)) (x8 ++ [x6, x7, wi64 (Int.tdiv (wi64 ((wi64 (x7 * x7)) - x5)) (wi64 (4 * x6)))]) k2
              else none
            else
            parquetref11_Forms.l6 N n x5 x6 (wi64 (x7 + 1)) x8 k2
          else
          parquetref11_Forms.l6 N n x5 x6 (wi64 (x7 + 1)) x8 k2
        else none
      else none
    else
    k2 x5 x6 x8
noncomputable def parquetref11_Forms.l3 {R : Type} (N : Nat) : Nat → Int → Int → List Int → (List Int → Option R) → Option R
  | 0, _, _, _, _ => none
  | n + 1, x2, x3, x4, k0 =>
    bif decide ((wi64 ((wi64 (3 * x3)) * x3)) ≤ (wi64 (0 - x2))) then
      parquetref11_Forms.l6 N N x2 x3 (wi64 (1 - x3)) x4
        (fun y12 y13 y14 =>
          parquetref11_Forms.l3 N n y12 (wi64 (y13 + 1)) y14 k0)
    else
    k0 x4
noncomputable def parquetref11_Forms.f (N : Nat) (a1 : Int) : Option (List Int) :=
  parquetref11_Forms.l3 N N a1 1 []
    (fun y16 =>
      some y16)
noncomputable def parquetref11_Forms.body : Code := (Try.f27.body).getD .skip
noncomputable def parquetref11_Forms.ty : List (Nat × TI) := [(2, ty2), (22, ty22), (33, ty33)]
noncomputable def parquetref11_Forms.h3 : Hint := ⟨[(0, .any), (3, .row .i64 3), (4, .any)], [(3, .row .i64 3)]⟩
noncomputable def parquetref11_Forms.h6 : Hint := ⟨[(0, .any), (3, .row .i64 3), (4, .any), (5, .any)], [(0, .any), (3, .row .i64 3), (4, .any)]⟩
noncomputable def parquetref11_Forms.c6 (N : Nat) : Cut := ⟨fun vs H k => match vs, H with
  | [.c (.int .i64 x5), .sw 0 3, .c (.int .i64 x6), .c (.int .i64 x7)], [.ints .i64 x8] => parquetref11_Forms.l6 N N x5 x6 x7 x8 (fun x9 x10 x11 => k (.exit 2) ⟨mkT parquetref11_Forms.h6.out [.c (.int .i64 x9), .sw 0 3, .c (.int .i64 x10)], [.ints .i64 x11]⟩)
  | _, _ => none⟩
noncomputable def parquetref11_Forms.c3 (N : Nat) : Cut := ⟨fun vs H k => match vs, H with
  | [.c (.int .i64 x2), .sw 0 3, .c (.int .i64 x3)], [.ints .i64 x4] => parquetref11_Forms.l3 N N x2 x3 x4 (fun x15 => k (.exit 0) ⟨mkT parquetref11_Forms.h3.out [.sw 0 3], [.ints .i64 x15]⟩)
  | _, _ => none⟩
noncomputable def parquetref11_Forms.E (N : Nat) : Env := { ty := lookN parquetref11_Forms.ty, tab := lookN [], hint := lookN [(3, parquetref11_Forms.h3), (6, parquetref11_Forms.h6)], cut := lookN [(6, parquetref11_Forms.c6 N), (3, parquetref11_Forms.c3 N)], N := N, res := [.tmp 2], rsh := [.il .i64 3], nb := 0, ntmps := 60, own := false }
noncomputable def parquetref11_Forms.b6 : Code := inner ((subLoops parquetref11_Forms.body).getD 1 .skip)
set_option maxRecDepth 100000 in
theorem parquetref11_Forms.l6_eq {R : Type} (N n : Nat) (x5 : Int) (x6 : Int) (x7 : Int) (x8 : List Int) (k : Ex → St → Option R) :
    evLoop 0 parquetref11_Forms.h6 (fun s k => evCode (parquetref11_Forms.E N) 388 parquetref11_Forms.b6 s k) n [.c (.int .i64 x5), .sw 0 3, .c (.int .i64 x6), .c (.int .i64 x7)] [.ints .i64 x8] k = parquetref11_Forms.l6 N n x5 x6 x7 x8 (fun x9 x10 x11 => k (.exit 2) ⟨mkT parquetref11_Forms.h6.out [.c (.int .i64 x9), .sw 0 3, .c (.int .i64 x10)], [.ints .i64 x11]⟩) := by
  induction n generalizing x5 x6 x7 x8 with
  | zero => kernel_rfl
  | succ n ih =>
    simp only [parquetref11_Forms.l6, ← ih]
    kernel_rfl
noncomputable def parquetref11_Forms.b3 : Code := inner ((subLoops parquetref11_Forms.body).getD 0 .skip)
set_option maxRecDepth 100000 in
theorem parquetref11_Forms.l3_eq {R : Type} (N n : Nat) (x2 : Int) (x3 : Int) (x4 : List Int) (k : Ex → St → Option R) :
    evLoop 0 parquetref11_Forms.h3 (fun s k => evCode (parquetref11_Forms.E N) 394 parquetref11_Forms.b3 s k) n [.c (.int .i64 x2), .sw 0 3, .c (.int .i64 x3)] [.ints .i64 x4] k = parquetref11_Forms.l3 N n x2 x3 x4 (fun x15 => k (.exit 0) ⟨mkT parquetref11_Forms.h3.out [.sw 0 3], [.ints .i64 x15]⟩) := by
  induction n generalizing x2 x3 x4 with
  | zero => kernel_rfl
  | succ n ih =>
    simp only [parquetref11_Forms.l3, ← ih]
    kernel_rfl
noncomputable def parquetref11_Forms.dec (v : V) (bs : List Blk) : Option (List Int) := match v, bs with
  | .il .i64 3 z0, [] => some z0
  | _, _ => none
set_option maxRecDepth 100000 in
theorem parquetref11_Forms.f_eq (N : Nat) (a1 : Int) :
    evFun (parquetref11_Forms.E N) parquetref11_Forms.body [.c (.int .i64 a1)] [] parquetref11_Forms.dec = parquetref11_Forms.f N a1 := by kernel_rfl
noncomputable def parquetref11_Forms.ent (N : Nat) : Entry := { A := List Int, fresh := 0, imm := [true], dec := fun args bs => match freezeL 0 (fun _ => .dead) [.any] args, bs with
  | some [.c (.int .i64 a1)], [] => some (parquetref11_Forms.f N a1, fun r => .one (.il .i64 3 r) [])
  | _, _ => none }
theorem parquetref11_Forms.env (N : Nat) : EnvOK Try.prog (parquetref11_Forms.E N) := ⟨(TyOK.cons ty2_ok (TyOK.cons ty22_ok (TyOK.cons ty33_ok TyOK.nil))), TabOK.nil⟩
theorem parquetref11_Forms.res_eq (N : Nat) : (parquetref11_Forms.E N).res = Try.f27.results.toList := by kernel_rfl
theorem parquetref11_Forms.k6 (N : Nat) : CutOK Try.prog Try.f27 (parquetref11_Forms.E N) (.loop parquetref11_Forms.b6) := by
  intro e hd he hh R vs H k r h
  have e1 : (parquetref11_Forms.E N).cut (loopKey parquetref11_Forms.b6) = some (parquetref11_Forms.c6 N) := by kernel_rfl
  have e2 : (parquetref11_Forms.E N).hint (loopKey parquetref11_Forms.b6) = some parquetref11_Forms.h6 := by kernel_rfl
  rw [e1] at he; rw [e2] at hh; cases he; cases hh
  unfold parquetref11_Forms.c6 at h; dsimp only at h
  split at h
  · rw [← parquetref11_Forms.l6_eq] at h
    exact loop_ok (evCode_ok (parquetref11_Forms.env N) Try_mixed (parquetref11_Forms.res_eq N) 388 parquetref11_Forms.b6 (AllCut.of (l := []) (by kernel_rfl) AllCut.nil)) h
  · cases h
theorem parquetref11_Forms.k3 (N : Nat) : CutOK Try.prog Try.f27 (parquetref11_Forms.E N) (.loop parquetref11_Forms.b3) := by
  intro e hd he hh R vs H k r h
  have e1 : (parquetref11_Forms.E N).cut (loopKey parquetref11_Forms.b3) = some (parquetref11_Forms.c3 N) := by kernel_rfl
  have e2 : (parquetref11_Forms.E N).hint (loopKey parquetref11_Forms.b3) = some parquetref11_Forms.h3 := by kernel_rfl
  rw [e1] at he; rw [e2] at hh; cases he; cases hh
  unfold parquetref11_Forms.c3 at h; dsimp only at h
  split at h
  · rw [← parquetref11_Forms.l3_eq] at h
    exact loop_ok (evCode_ok (parquetref11_Forms.env N) Try_mixed (parquetref11_Forms.res_eq N) 394 parquetref11_Forms.b3 (AllCut.of (l := [(.loop (inner ((subLoops parquetref11_Forms.body).getD 1 .skip)))]) (by kernel_rfl) (AllCut.cons (parquetref11_Forms.k6 N) AllCut.nil))) h
  · cases h
theorem parquetref11_Forms.spec (N : Nat) (a1 : Int) (r : List Int) (h : parquetref11_Forms.f N a1 = some r) : FnSpec Try.prog 27 [.c (.int .i64 a1)] [] (.il .i64 3 r) ([]) := by
  rw [← parquetref11_Forms.f_eq] at h
  refine (evFun_ok (parquetref11_Forms.env N) Try_mixed Try.func27 (by kernel_rfl : Try.f27.body = some parquetref11_Forms.body) (by kernel_rfl) (parquetref11_Forms.res_eq N) (by kernel_rfl) (by kernel_rfl) (Nat.le_of_ble_eq_true (by kernel_rfl)) (AllCut.of (l := [(.loop (inner ((subLoops parquetref11_Forms.body).getD 0 .skip))), (.loop (inner ((subLoops parquetref11_Forms.body).getD 1 .skip)))]) (by kernel_rfl) (AllCut.cons (parquetref11_Forms.k3 N) (AllCut.cons (parquetref11_Forms.k6 N) AllCut.nil))) h).of fun v bs' h1 => ?_
  unfold parquetref11_Forms.dec at h1; split at h1
  · cases h1; exact ⟨rfl, rfl⟩
  · cases h1
theorem parquetref11_Forms.ent_ok (N : Nat) : TabOK1 Try.prog 27 (parquetref11_Forms.ent N) := by
  intro args bs a enc h
  simp only [parquetref11_Forms.ent] at h
  split at h
  · rename_i hz; have h0 := Option.some.inj h; have h1 := congrArg Prod.fst h0; have h2 := congrArg Prod.snd h0; dsimp only at h1 h2; subst h2; exact FnSpec.of_freeze hz (parquetref11_Forms.spec N _ a h1)
  · cases h
/-! parquet/parquetref11.All: function 14 -/
noncomputable def parquetref11_All.l4 {R : Type} (N : Nat) : Nat → List Int → Int → List Int → (List Int → Option R) → Option R
  | 0, _, _, _, _ => none
  | n + 1, x3, x4, x5, k0 =>
    bif decide (x4 < (x3.length / 3 : Int)) then
      bif (decide (0 ≤ x4)) && (decide (x4 < (x3.length / 3 : Int))) then
        (parquetref11_Content.f N (x3.getD (x4.toNat * 3) 0) (x3.getD ((x4.toNat * 3) + 1) 0) (x3.getD ((x4.toNat * 3) + 2) 0)).bind fun r6 =>
        bif r6 == 1 then
          bif (decide (0 ≤ x4)) && (decide (x4 < (x3.length / 3 : Int))) then
            bif roomy ((x5.length + 3) / 3) 24 then
              parquetref11_All.l4 N n x3 (wi64 (x4 + 1)) (x5 ++ [x3.getD (x4.toNat * 3) 0, x3.getD ((x4.toNat * 3) + 1) 0, x3.getD ((x4.toNat * 3) + 2) 0]) k0
            else none
          else none
        else
        parquetref11_All.l4 N n x3 (wi64 (x4 + 1)) x5 k0
      else none
    else
    k0 x5
noncomputable def parquetref11_All.f (N : Nat) (a1 : Int) : Option (List Int) :=
  (parquetref11_Forms.f N a1).bind fun r2 =>
  parquetref11_All.l4 N N r2 0 []
    (fun y8 =>
      some y8)
noncomputable def parquetref11_All.body : Code := (Try.f14.body).getD .skip
noncomputable def parquetref11_All.ty : List (Nat × TI) := [(22, ty22), (33, ty33)]
noncomputable def parquetref11_All.h4 : Hint := ⟨[(3, .row .i64 3), (4, .il .i64 3), (5, .any)], [(3, .row .i64 3)]⟩
noncomputable def parquetref11_All.c4 (N : Nat) : Cut := ⟨fun vs H k => match vs, H with
  | [.sw 0 3, .il .i64 3 x3, .c (.int .i64 x4)], [.ints .i64 x5] => parquetref11_All.l4 N N x3 x4 x5 (fun x7 => k (.exit 0) ⟨mkT parquetref11_All.h4.out [.sw 0 3], [.ints .i64 x7]⟩)
  | _, _ => none⟩
noncomputable def parquetref11_All.E (N : Nat) : Env := { ty := lookN parquetref11_All.ty, tab := lookN [(27, parquetref11_Forms.ent N), (21, parquetref11_Content.ent N)], hint := lookN [(4, parquetref11_All.h4)], cut := lookN [(4, parquetref11_All.c4 N)], N := N, res := [.tmp 2], rsh := [.il .i64 3], nb := 0, ntmps := 30, own := false }
noncomputable def parquetref11_All.b4 : Code := inner ((subLoops parquetref11_All.body).getD 0 .skip)
set_option maxRecDepth 100000 in
theorem parquetref11_All.l4_eq {R : Type} (N n : Nat) (x3 : List Int) (x4 : Int) (x5 : List Int) (k : Ex → St → Option R) :
    evLoop 0 parquetref11_All.h4 (fun s k => evCode (parquetref11_All.E N) 393 parquetref11_All.b4 s k) n [.sw 0 3, .il .i64 3 x3, .c (.int .i64 x4)] [.ints .i64 x5] k = parquetref11_All.l4 N n x3 x4 x5 (fun x7 => k (.exit 0) ⟨mkT parquetref11_All.h4.out [.sw 0 3], [.ints .i64 x7]⟩) := by
  induction n generalizing x3 x4 x5 with
  | zero => kernel_rfl
  | succ n ih =>
    simp only [parquetref11_All.l4, ← ih]
    kernel_rfl
noncomputable def parquetref11_All.dec (v : V) (bs : List Blk) : Option (List Int) := match v, bs with
  | .il .i64 3 z0, [] => some z0
  | _, _ => none
set_option maxRecDepth 100000 in
theorem parquetref11_All.f_eq (N : Nat) (a1 : Int) :
    evFun (parquetref11_All.E N) parquetref11_All.body [.c (.int .i64 a1)] [] parquetref11_All.dec = parquetref11_All.f N a1 := by kernel_rfl
noncomputable def parquetref11_All.ent (N : Nat) : Entry := { A := List Int, fresh := 0, imm := [true], dec := fun args bs => match freezeL 0 (fun _ => .dead) [.any] args, bs with
  | some [.c (.int .i64 a1)], [] => some (parquetref11_All.f N a1, fun r => .one (.il .i64 3 r) [])
  | _, _ => none }
theorem parquetref11_All.env (N : Nat) : EnvOK Try.prog (parquetref11_All.E N) := ⟨(TyOK.cons ty22_ok (TyOK.cons ty33_ok TyOK.nil)), (TabOK.cons (parquetref11_Forms.ent_ok N) (TabOK.cons (parquetref11_Content.ent_ok N) TabOK.nil))⟩
theorem parquetref11_All.res_eq (N : Nat) : (parquetref11_All.E N).res = Try.f14.results.toList := by kernel_rfl
theorem parquetref11_All.k4 (N : Nat) : CutOK Try.prog Try.f14 (parquetref11_All.E N) (.loop parquetref11_All.b4) := by
  intro e hd he hh R vs H k r h
  have e1 : (parquetref11_All.E N).cut (loopKey parquetref11_All.b4) = some (parquetref11_All.c4 N) := by kernel_rfl
  have e2 : (parquetref11_All.E N).hint (loopKey parquetref11_All.b4) = some parquetref11_All.h4 := by kernel_rfl
  rw [e1] at he; rw [e2] at hh; cases he; cases hh
  unfold parquetref11_All.c4 at h; dsimp only at h
  split at h
  · rw [← parquetref11_All.l4_eq] at h
    exact loop_ok (evCode_ok (parquetref11_All.env N) Try_mixed (parquetref11_All.res_eq N) 393 parquetref11_All.b4 (AllCut.of (l := []) (by kernel_rfl) AllCut.nil)) h
  · cases h
theorem parquetref11_All.spec (N : Nat) (a1 : Int) (r : List Int) (h : parquetref11_All.f N a1 = some r) : FnSpec Try.prog 14 [.c (.int .i64 a1)] [] (.il .i64 3 r) ([]) := by
  rw [← parquetref11_All.f_eq] at h
  refine (evFun_ok (parquetref11_All.env N) Try_mixed Try.func14 (by kernel_rfl : Try.f14.body = some parquetref11_All.body) (by kernel_rfl) (parquetref11_All.res_eq N) (by kernel_rfl) (by kernel_rfl) (Nat.le_of_ble_eq_true (by kernel_rfl)) (AllCut.of (l := [(.loop (inner ((subLoops parquetref11_All.body).getD 0 .skip)))]) (by kernel_rfl) (AllCut.cons (parquetref11_All.k4 N) AllCut.nil)) h).of fun v bs' h1 => ?_
  unfold parquetref11_All.dec at h1; split at h1
  · cases h1; exact ⟨rfl, rfl⟩
  · cases h1
theorem parquetref11_All.ent_ok (N : Nat) : TabOK1 Try.prog 14 (parquetref11_All.ent N) := by
  intro args bs a enc h
  simp only [parquetref11_All.ent] at h
  split at h
  · rename_i hz; have h0 := Option.some.inj h; have h1 := congrArg Prod.fst h0; have h2 := congrArg Prod.snd h0; dsimp only at h1 h2; subst h2; exact FnSpec.of_freeze hz (parquetref11_All.spec N _ a h1)
  · cases h
/-! parquet/parquetref11.Hurwitz: function 17 -/
noncomputable def parquetref11_Hurwitz.l8 {R : Type} (N : Nat) : Nat → Int → List Int → Int → (Int → Option R) → Option R
  | 0, _, _, _, _ => none
  | n + 1, x3, x4, x5, k0 =>
    bif decide (x5 < (x4.length / 3 : Int)) then
      bif (decide (0 ≤ x5)) && (decide (x5 < (x4.length / 3 : Int))) then
        bif (x4.getD ((x5.toNat * 3) + 1) 0) == 0 then
          bif (x4.getD (x5.toNat * 3) 0) == (x4.getD ((x5.toNat * 3) + 2) 0) then
            parquetref11_Hurwitz.l8 N n (wi64 (x3 + 6)) x4 (wi64 (x5 + 1)) k0
          else
          bif (x4.getD (x5.toNat * 3) 0) == (x4.getD ((x5.toNat * 3) + 1) 0) then
            bif (x4.getD (x5.toNat * 3) 0) == (x4.getD ((x5.toNat * 3) + 2) 0) then
              parquetref11_Hurwitz.l8 N n (wi64 (x3 + 4)) x4 (wi64 (x5 + 1)) k0
            else
            parquetref11_Hurwitz.l8 N n (wi64 (x3 + 12)) x4 (wi64 (x5 + 1)) k0
          else
          parquetref11_Hurwitz.l8 N n (wi64 (x3 + 12)) x4 (wi64 (x5 + 1)) k0
        else
        bif (x4.getD (x5.toNat * 3) 0) == (x4.getD ((x5.toNat * 3) + 1) 0) then
          bif (x4.getD (x5.toNat * 3) 0) == (x4.getD ((x5.toNat * 3) + 2) 0) then
            parquetref11_Hurwitz.l8 N n (wi64 (x3 + 4)) x4 (wi64 (x5 + 1)) k0
          else
          parquetref11_Hurwitz.l8 N n (wi64 (x3 + 12)) x4 (wi64 (x5 + 1)) k0
        else
        parquetref11_Hurwitz.l8 N n (wi64 (x3 + 12)) x4 (wi64 (x5 + 1)) k0
      else none
    else
    k0 x3
noncomputable def parquetref11_Hurwitz.f (N : Nat) (a1 : Int) : Option (Int) :=
  bif a1 == 0 then
    some (-1)
  else
  bif (Int.tmod a1 4) == 1 then
    some 0
  else
  bif (Int.tmod a1 4) == 2 then
    some 0
  else
  (parquetref11_Forms.f N (wi64 (0 - a1))).bind fun r2 =>
  parquetref11_Hurwitz.l8 N N 0 r2 0
    (fun y7 =>
      some y7)
noncomputable def parquetref11_Hurwitz.body : Code := (Try.f17.body).getD .skip
noncomputable def parquetref11_Hurwitz.ty : List (Nat × TI) := [(2, ty2), (22, ty22), (33, ty33)]
noncomputable def parquetref11_Hurwitz.h8 : Hint := ⟨[(3, .any), (4, .il .i64 3), (5, .any)], [(3, .any)]⟩
noncomputable def parquetref11_Hurwitz.c8 (N : Nat) : Cut := ⟨fun vs H k => match vs, H with
  | [.c (.int .i64 x3), .il .i64 3 x4, .c (.int .i64 x5)], [] => parquetref11_Hurwitz.l8 N N x3 x4 x5 (fun x6 => k (.exit 0) ⟨mkT parquetref11_Hurwitz.h8.out [.c (.int .i64 x6)], []⟩)
  | _, _ => none⟩
noncomputable def parquetref11_Hurwitz.E (N : Nat) : Env := { ty := lookN parquetref11_Hurwitz.ty, tab := lookN [(27, parquetref11_Forms.ent N)], hint := lookN [(8, parquetref11_Hurwitz.h8)], cut := lookN [(8, parquetref11_Hurwitz.c8 N)], N := N, res := [.tmp 2], rsh := [.any], nb := 0, ntmps := 61, own := false }
noncomputable def parquetref11_Hurwitz.b8 : Code := inner ((subLoops parquetref11_Hurwitz.body).getD 0 .skip)
set_option maxRecDepth 100000 in
theorem parquetref11_Hurwitz.l8_eq {R : Type} (N n : Nat) (x3 : Int) (x4 : List Int) (x5 : Int) (k : Ex → St → Option R) :
    evLoop 0 parquetref11_Hurwitz.h8 (fun s k => evCode (parquetref11_Hurwitz.E N) 391 parquetref11_Hurwitz.b8 s k) n [.c (.int .i64 x3), .il .i64 3 x4, .c (.int .i64 x5)] [] k = parquetref11_Hurwitz.l8 N n x3 x4 x5 (fun x6 => k (.exit 0) ⟨mkT parquetref11_Hurwitz.h8.out [.c (.int .i64 x6)], []⟩) := by
  induction n generalizing x3 x4 x5 with
  | zero => kernel_rfl
  | succ n ih =>
    simp only [parquetref11_Hurwitz.l8, ← ih]
    kernel_rfl
noncomputable def parquetref11_Hurwitz.dec (v : V) (bs : List Blk) : Option (Int) := match v, bs with
  | .c (.int .i64 z0), [] => some z0
  | _, _ => none
set_option maxRecDepth 100000 in
theorem parquetref11_Hurwitz.f_eq (N : Nat) (a1 : Int) :
    evFun (parquetref11_Hurwitz.E N) parquetref11_Hurwitz.body [.c (.int .i64 a1)] [] parquetref11_Hurwitz.dec = parquetref11_Hurwitz.f N a1 := by kernel_rfl
noncomputable def parquetref11_Hurwitz.ent (N : Nat) : Entry := { A := Int, fresh := 0, imm := [true], dec := fun args bs => match freezeL 0 (fun _ => .dead) [.any] args, bs with
  | some [.c (.int .i64 a1)], [] => some (parquetref11_Hurwitz.f N a1, fun r => .one (.c (.int .i64 r)) [])
  | _, _ => none }
theorem parquetref11_Hurwitz.env (N : Nat) : EnvOK Try.prog (parquetref11_Hurwitz.E N) := ⟨(TyOK.cons ty2_ok (TyOK.cons ty22_ok (TyOK.cons ty33_ok TyOK.nil))), (TabOK.cons (parquetref11_Forms.ent_ok N) TabOK.nil)⟩
theorem parquetref11_Hurwitz.res_eq (N : Nat) : (parquetref11_Hurwitz.E N).res = Try.f17.results.toList := by kernel_rfl
theorem parquetref11_Hurwitz.k8 (N : Nat) : CutOK Try.prog Try.f17 (parquetref11_Hurwitz.E N) (.loop parquetref11_Hurwitz.b8) := by
  intro e hd he hh R vs H k r h
  have e1 : (parquetref11_Hurwitz.E N).cut (loopKey parquetref11_Hurwitz.b8) = some (parquetref11_Hurwitz.c8 N) := by kernel_rfl
  have e2 : (parquetref11_Hurwitz.E N).hint (loopKey parquetref11_Hurwitz.b8) = some parquetref11_Hurwitz.h8 := by kernel_rfl
  rw [e1] at he; rw [e2] at hh; cases he; cases hh
  unfold parquetref11_Hurwitz.c8 at h; dsimp only at h
  split at h
  · rw [← parquetref11_Hurwitz.l8_eq] at h
    exact loop_ok (evCode_ok (parquetref11_Hurwitz.env N) Try_mixed (parquetref11_Hurwitz.res_eq N) 391 parquetref11_Hurwitz.b8 (AllCut.of (l := []) (by kernel_rfl) AllCut.nil)) h
  · cases h
theorem parquetref11_Hurwitz.spec (N : Nat) (a1 : Int) (r : Int) (h : parquetref11_Hurwitz.f N a1 = some r) : FnSpec Try.prog 17 [.c (.int .i64 a1)] [] (.c (.int .i64 r)) ([]) := by
  rw [← parquetref11_Hurwitz.f_eq] at h
  refine (evFun_ok (parquetref11_Hurwitz.env N) Try_mixed Try.func17 (by kernel_rfl : Try.f17.body = some parquetref11_Hurwitz.body) (by kernel_rfl) (parquetref11_Hurwitz.res_eq N) (by kernel_rfl) (by kernel_rfl) (Nat.le_of_ble_eq_true (by kernel_rfl)) (AllCut.of (l := [(.loop (inner ((subLoops parquetref11_Hurwitz.body).getD 0 .skip)))]) (by kernel_rfl) (AllCut.cons (parquetref11_Hurwitz.k8 N) AllCut.nil)) h).of fun v bs' h1 => ?_
  unfold parquetref11_Hurwitz.dec at h1; split at h1
  · cases h1; exact ⟨rfl, rfl⟩
  · cases h1
theorem parquetref11_Hurwitz.ent_ok (N : Nat) : TabOK1 Try.prog 17 (parquetref11_Hurwitz.ent N) := by
  intro args bs a enc h
  simp only [parquetref11_Hurwitz.ent] at h
  split at h
  · rename_i hz; have h0 := Option.some.inj h; have h1 := congrArg Prod.fst h0; have h2 := congrArg Prod.snd h0; dsimp only at h1 h2; subst h2; exact FnSpec.of_freeze hz (parquetref11_Hurwitz.spec N _ a h1)
  · cases h
/-! parquet/parquetref08.small: function 49 -/
noncomputable def parquetref08_small.f (N : Nat) (a1 : Int) : Option (Bool) :=
  bif decide (a1 ≥ (-1073741824)) then
    some (decide (a1 ≤ 1073741824))
  else
  some false
noncomputable def parquetref08_small.body : Code := (Try.f49.body).getD .skip
noncomputable def parquetref08_small.ty : List (Nat × TI) := []
noncomputable def parquetref08_small.E (N : Nat) : Env := { ty := lookN parquetref08_small.ty, tab := lookN [], hint := lookN [], cut := lookN [], N := N, res := [.tmp 2], rsh := [.any], nb := 0, ntmps := 9, own := false }
noncomputable def parquetref08_small.dec (v : V) (bs : List Blk) : Option (Bool) := match v, bs with
  | .c (.bool z0), [] => some z0
  | _, _ => none
set_option maxRecDepth 100000 in
theorem parquetref08_small.f_eq (N : Nat) (a1 : Int) :
    evFun (parquetref08_small.E N) parquetref08_small.body [.c (.int .i64 a1)] [] parquetref08_small.dec = parquetref08_small.f N a1 := by kernel_rfl
noncomputable def parquetref08_small.ent (N : Nat) : Entry := { A := Bool, fresh := 0, imm := [true], dec := fun args bs => match freezeL 0 (fun _ => .dead) [.any] args, bs with
  | some [.c (.int .i64 a1)], [] => some (parquetref08_small.f N a1, fun r => .one (.c (.bool r)) [])
  | _, _ => none }
theorem parquetref08_small.env (N : Nat) : EnvOK Try.prog (parquetref08_small.E N) := ⟨TyOK.nil, TabOK.nil⟩
theorem parquetref08_small.res_eq (N : Nat) : (parquetref08_small.E N).res = Try.f49.results.toList := by kernel_rfl
theorem parquetref08_small.spec (N : Nat) (a1 : Int) (r : Bool) (h : parquetref08_small.f N a1 = some r) : FnSpec Try.prog 49 [.c (.int .i64 a1)] [] (.c (.bool r)) ([]) := by
  rw [← parquetref08_small.f_eq] at h
  refine (evFun_ok (parquetref08_small.env N) Try_mixed Try.func49 (by kernel_rfl : Try.f49.body = some parquetref08_small.body) (by kernel_rfl) (parquetref08_small.res_eq N) (by kernel_rfl) (by kernel_rfl) (Nat.le_of_ble_eq_true (by kernel_rfl)) (AllCut.of (l := []) (by kernel_rfl) AllCut.nil) h).of fun v bs' h1 => ?_
  unfold parquetref08_small.dec at h1; split at h1
  · cases h1; exact ⟨rfl, rfl⟩
  · cases h1
theorem parquetref08_small.ent_ok (N : Nat) : TabOK1 Try.prog 49 (parquetref08_small.ent N) := by
  intro args bs a enc h
  simp only [parquetref08_small.ent] at h
  split at h
  · rename_i hz; have h0 := Option.some.inj h; have h1 := congrArg Prod.fst h0; have h2 := congrArg Prod.snd h0; dsimp only at h1 h2; subst h2; exact FnSpec.of_freeze hz (parquetref08_small.spec N _ a h1)
  · cases h
/-! parquet/parquetref08.In: function 38 -/
noncomputable def parquetref08_In.f (N : Nat) (a1 : Int) (a2 : Int) (a3 : Int) : Option (Bool) :=
  (parquetref08_small.f N a1).bind fun r4 =>
  bif r4 then
    (parquetref08_small.f N a2).bind fun r5 =>
    bif r5 then
      (parquetref08_small.f N a3).bind fun r6 =>
      some r6
    else
    some false
  else
  some false
noncomputable def parquetref08_In.body : Code := (Try.f38.body).getD .skip
noncomputable def parquetref08_In.ty : List (Nat × TI) := [(2, ty2), (33, ty33)]
noncomputable def parquetref08_In.E (N : Nat) : Env := { ty := lookN parquetref08_In.ty, tab := lookN [(49, parquetref08_small.ent N)], hint := lookN [], cut := lookN [], N := N, res := [.tmp 2], rsh := [.any], nb := 0, ntmps := 16, own := false }
noncomputable def parquetref08_In.dec (v : V) (bs : List Blk) : Option (Bool) := match v, bs with
  | .c (.bool z0), [] => some z0
  | _, _ => none
set_option maxRecDepth 100000 in
theorem parquetref08_In.f_eq (N : Nat) (a1 : Int) (a2 : Int) (a3 : Int) :
    evFun (parquetref08_In.E N) parquetref08_In.body [.agg [.c (.int .i64 a1), .c (.int .i64 a2), .c (.int .i64 a3)]] [] parquetref08_In.dec = parquetref08_In.f N a1 a2 a3 := by kernel_rfl
noncomputable def parquetref08_In.ent (N : Nat) : Entry := { A := Bool, fresh := 0, imm := [true], dec := fun args bs => match freezeL 0 (fun _ => .dead) [.recd [.any, .any, .any]] args, bs with
  | some [.agg [.c (.int .i64 a1), .c (.int .i64 a2), .c (.int .i64 a3)]], [] => some (parquetref08_In.f N a1 a2 a3, fun r => .one (.c (.bool r)) [])
  | _, _ => none }
theorem parquetref08_In.env (N : Nat) : EnvOK Try.prog (parquetref08_In.E N) := ⟨(TyOK.cons ty2_ok (TyOK.cons ty33_ok TyOK.nil)), (TabOK.cons (parquetref08_small.ent_ok N) TabOK.nil)⟩
theorem parquetref08_In.res_eq (N : Nat) : (parquetref08_In.E N).res = Try.f38.results.toList := by kernel_rfl
theorem parquetref08_In.spec (N : Nat) (a1 : Int) (a2 : Int) (a3 : Int) (r : Bool) (h : parquetref08_In.f N a1 a2 a3 = some r) : FnSpec Try.prog 38 [.agg [.c (.int .i64 a1), .c (.int .i64 a2), .c (.int .i64 a3)]] [] (.c (.bool r)) ([]) := by
  rw [← parquetref08_In.f_eq] at h
  refine (evFun_ok (parquetref08_In.env N) Try_mixed Try.func38 (by kernel_rfl : Try.f38.body = some parquetref08_In.body) (by kernel_rfl) (parquetref08_In.res_eq N) (by kernel_rfl) (by kernel_rfl) (Nat.le_of_ble_eq_true (by kernel_rfl)) (AllCut.of (l := []) (by kernel_rfl) AllCut.nil) h).of fun v bs' h1 => ?_
  unfold parquetref08_In.dec at h1; split at h1
  · cases h1; exact ⟨rfl, rfl⟩
  · cases h1
theorem parquetref08_In.ent_ok (N : Nat) : TabOK1 Try.prog 38 (parquetref08_In.ent N) := by
  intro args bs a enc h
  simp only [parquetref08_In.ent] at h
  split at h
  · rename_i hz; have h0 := Option.some.inj h; have h1 := congrArg Prod.fst h0; have h2 := congrArg Prod.snd h0; dsimp only at h1 h2; subst h2; exact FnSpec.of_freeze hz (parquetref08_In.spec N _ _ _ a h1)
  · cases h
/-! parquet/parquetref08.Disc: function 20 -/
noncomputable def parquetref08_Disc.f (N : Nat) (a1 : Int) (a2 : Int) (a3 : Int) : Option (Int) :=
  (parquetref08_In.f N a1 a2 a3).bind fun r4 =>
  bif !r4 then
    some 0
  else
  some (wi64 ((wi64 (a2 * a2)) - (wi64 ((wi64 (4 * a1)) * a3))))
noncomputable def parquetref08_Disc.body : Code := (Try.f20.body).getD .skip
noncomputable def parquetref08_Disc.ty : List (Nat × TI) := [(2, ty2), (33, ty33)]
noncomputable def parquetref08_Disc.E (N : Nat) : Env := { ty := lookN parquetref08_Disc.ty, tab := lookN [(38, parquetref08_In.ent N)], hint := lookN [], cut := lookN [], N := N, res := [.tmp 2], rsh := [.any], nb := 0, ntmps := 18, own := false }
noncomputable def parquetref08_Disc.dec (v : V) (bs : List Blk) : Option (Int) := match v, bs with
  | .c (.int .i64 z0), [] => some z0
  | _, _ => none
set_option maxRecDepth 100000 in
theorem parquetref08_Disc.f_eq (N : Nat) (a1 : Int) (a2 : Int) (a3 : Int) :
    evFun (parquetref08_Disc.E N) parquetref08_Disc.body [.agg [.c (.int .i64 a1), .c (.int .i64 a2), .c (.int .i64 a3)]] [] parquetref08_Disc.dec = parquetref08_Disc.f N a1 a2 a3 := by kernel_rfl
noncomputable def parquetref08_Disc.ent (N : Nat) : Entry := { A := Int, fresh := 0, imm := [true], dec := fun args bs => match freezeL 0 (fun _ => .dead) [.recd [.any, .any, .any]] args, bs with
  | some [.agg [.c (.int .i64 a1), .c (.int .i64 a2), .c (.int .i64 a3)]], [] => some (parquetref08_Disc.f N a1 a2 a3, fun r => .one (.c (.int .i64 r)) [])
  | _, _ => none }
theorem parquetref08_Disc.env (N : Nat) : EnvOK Try.prog (parquetref08_Disc.E N) := ⟨(TyOK.cons ty2_ok (TyOK.cons ty33_ok TyOK.nil)), (TabOK.cons (parquetref08_In.ent_ok N) TabOK.nil)⟩
theorem parquetref08_Disc.res_eq (N : Nat) : (parquetref08_Disc.E N).res = Try.f20.results.toList := by kernel_rfl
theorem parquetref08_Disc.spec (N : Nat) (a1 : Int) (a2 : Int) (a3 : Int) (r : Int) (h : parquetref08_Disc.f N a1 a2 a3 = some r) : FnSpec Try.prog 20 [.agg [.c (.int .i64 a1), .c (.int .i64 a2), .c (.int .i64 a3)]] [] (.c (.int .i64 r)) ([]) := by
  rw [← parquetref08_Disc.f_eq] at h
  refine (evFun_ok (parquetref08_Disc.env N) Try_mixed Try.func20 (by kernel_rfl : Try.f20.body = some parquetref08_Disc.body) (by kernel_rfl) (parquetref08_Disc.res_eq N) (by kernel_rfl) (by kernel_rfl) (Nat.le_of_ble_eq_true (by kernel_rfl)) (AllCut.of (l := []) (by kernel_rfl) AllCut.nil) h).of fun v bs' h1 => ?_
  unfold parquetref08_Disc.dec at h1; split at h1
  · cases h1; exact ⟨rfl, rfl⟩
  · cases h1
theorem parquetref08_Disc.ent_ok (N : Nat) : TabOK1 Try.prog 20 (parquetref08_Disc.ent N) := by
  intro args bs a enc h
  simp only [parquetref08_Disc.ent] at h
  split at h
  · rename_i hz; have h0 := Option.some.inj h; have h1 := congrArg Prod.fst h0; have h2 := congrArg Prod.snd h0; dsimp only at h1 h2; subst h2; exact FnSpec.of_freeze hz (parquetref08_Disc.spec N _ _ _ a h1)
  · cases h
/-! parquet/parquetref08.Check: function 35 -/
noncomputable def parquetref08_Check.f (N : Nat) (a1 : Int) (a2 : Int) (a3 : Int) : Option (Int) :=
  (parquetref08_In.f N a1 a2 a3).bind fun r4 =>
  bif !r4 then
    some 3
  else
  bif decide (a1 ≤ 0) then
    some 81
  else
  (parquetref08_Disc.f N a1 a2 a3).bind fun r5 =>
  bif decide (r5 ≥ 0) then
    some 81
  else
  (parquetref08_Disc.f N a1 a2 a3).bind fun r6 =>
  bif decide (r6 < (-4294967296)) then
    some 80
  else
  some 0
noncomputable def parquetref08_Check.body : Code := (Try.f35.body).getD .skip
noncomputable def parquetref08_Check.ty : List (Nat × TI) := [(2, ty2), (33, ty33)]
noncomputable def parquetref08_Check.E (N : Nat) : Env := { ty := lookN parquetref08_Check.ty, tab := lookN [(38, parquetref08_In.ent N), (20, parquetref08_Disc.ent N)], hint := lookN [], cut := lookN [], N := N, res := [.tmp 2], rsh := [.any], nb := 0, ntmps := 17, own := false }
noncomputable def parquetref08_Check.dec (v : V) (bs : List Blk) : Option (Int) := match v, bs with
  | .c (.int .i64 z0), [] => some z0
  | _, _ => none
set_option maxRecDepth 100000 in
theorem parquetref08_Check.f_eq (N : Nat) (a1 : Int) (a2 : Int) (a3 : Int) :
    evFun (parquetref08_Check.E N) parquetref08_Check.body [.agg [.c (.int .i64 a1), .c (.int .i64 a2), .c (.int .i64 a3)]] [] parquetref08_Check.dec = parquetref08_Check.f N a1 a2 a3 := by kernel_rfl
noncomputable def parquetref08_Check.ent (N : Nat) : Entry := { A := Int, fresh := 0, imm := [true], dec := fun args bs => match freezeL 0 (fun _ => .dead) [.recd [.any, .any, .any]] args, bs with
  | some [.agg [.c (.int .i64 a1), .c (.int .i64 a2), .c (.int .i64 a3)]], [] => some (parquetref08_Check.f N a1 a2 a3, fun r => .one (.c (.int .i64 r)) [])
  | _, _ => none }
theorem parquetref08_Check.env (N : Nat) : EnvOK Try.prog (parquetref08_Check.E N) := ⟨(TyOK.cons ty2_ok (TyOK.cons ty33_ok TyOK.nil)), (TabOK.cons (parquetref08_In.ent_ok N) (TabOK.cons (parquetref08_Disc.ent_ok N) TabOK.nil))⟩
theorem parquetref08_Check.res_eq (N : Nat) : (parquetref08_Check.E N).res = Try.f35.results.toList := by kernel_rfl
theorem parquetref08_Check.spec (N : Nat) (a1 : Int) (a2 : Int) (a3 : Int) (r : Int) (h : parquetref08_Check.f N a1 a2 a3 = some r) : FnSpec Try.prog 35 [.agg [.c (.int .i64 a1), .c (.int .i64 a2), .c (.int .i64 a3)]] [] (.c (.int .i64 r)) ([]) := by
  rw [← parquetref08_Check.f_eq] at h
  refine (evFun_ok (parquetref08_Check.env N) Try_mixed Try.func35 (by kernel_rfl : Try.f35.body = some parquetref08_Check.body) (by kernel_rfl) (parquetref08_Check.res_eq N) (by kernel_rfl) (by kernel_rfl) (Nat.le_of_ble_eq_true (by kernel_rfl)) (AllCut.of (l := []) (by kernel_rfl) AllCut.nil) h).of fun v bs' h1 => ?_
  unfold parquetref08_Check.dec at h1; split at h1
  · cases h1; exact ⟨rfl, rfl⟩
  · cases h1
theorem parquetref08_Check.ent_ok (N : Nat) : TabOK1 Try.prog 35 (parquetref08_Check.ent N) := by
  intro args bs a enc h
  simp only [parquetref08_Check.ent] at h
  split at h
  · rename_i hz; have h0 := Option.some.inj h; have h1 := congrArg Prod.fst h0; have h2 := congrArg Prod.snd h0; dsimp only at h1 h2; subst h2; exact FnSpec.of_freeze hz (parquetref08_Check.spec N _ _ _ a h1)
  · cases h
/-! parquet/parquetref08.Is: function 36 -/
noncomputable def parquetref08_Is.f (N : Nat) (a1 : Int) (a2 : Int) (a3 : Int) : Option (Bool) :=
  bif decide ((wi64 (0 - a1)) < a2) then
    bif decide (a2 ≤ a1) then
      bif decide (a1 ≤ a3) then
        bif decide (a2 ≥ 0) then
          some true
        else
        some (a1 != a3)
      else
      some false
    else
    some false
  else
  some false
noncomputable def parquetref08_Is.body : Code := (Try.f36.body).getD .skip
noncomputable def parquetref08_Is.ty : List (Nat × TI) := [(2, ty2), (33, ty33)]
noncomputable def parquetref08_Is.E (N : Nat) : Env := { ty := lookN parquetref08_Is.ty, tab := lookN [], hint := lookN [], cut := lookN [], N := N, res := [.tmp 2], rsh := [.any], nb := 0, ntmps := 35, own := false }
noncomputable def parquetref08_Is.dec (v : V) (bs : List Blk) : Option (Bool) := match v, bs with
  | .c (.bool z0), [] => some z0
  | _, _ => none
set_option maxRecDepth 100000 in
theorem parquetref08_Is.f_eq (N : Nat) (a1 : Int) (a2 : Int) (a3 : Int) :
    evFun (parquetref08_Is.E N) parquetref08_Is.body [.agg [.c (.int .i64 a1), .c (.int .i64 a2), .c (.int .i64 a3)]] [] parquetref08_Is.dec = parquetref08_Is.f N a1 a2 a3 := by kernel_rfl
noncomputable def parquetref08_Is.ent (N : Nat) : Entry := { A := Bool, fresh := 0, imm := [true], dec := fun args bs => match freezeL 0 (fun _ => .dead) [.recd [.any, .any, .any]] args, bs with
  | some [.agg [.c (.int .i64 a1), .c (.int .i64 a2), .c (.int .i64 a3)]], [] => some (parquetref08_Is.f N a1 a2 a3, fun r => .one (.c (.bool r)) [])
  | _, _ => none }
theorem parquetref08_Is.env (N : Nat) : EnvOK Try.prog (parquetref08_Is.E N) := ⟨(TyOK.cons ty2_ok (TyOK.cons ty33_ok TyOK.nil)), TabOK.nil⟩
theorem parquetref08_Is.res_eq (N : Nat) : (parquetref08_Is.E N).res = Try.f36.results.toList := by kernel_rfl
theorem parquetref08_Is.spec (N : Nat) (a1 : Int) (a2 : Int) (a3 : Int) (r : Bool) (h : parquetref08_Is.f N a1 a2 a3 = some r) : FnSpec Try.prog 36 [.agg [.c (.int .i64 a1), .c (.int .i64 a2), .c (.int .i64 a3)]] [] (.c (.bool r)) ([]) := by
  rw [← parquetref08_Is.f_eq] at h
  refine (evFun_ok (parquetref08_Is.env N) Try_mixed Try.func36 (by kernel_rfl : Try.f36.body = some parquetref08_Is.body) (by kernel_rfl) (parquetref08_Is.res_eq N) (by kernel_rfl) (by kernel_rfl) (Nat.le_of_ble_eq_true (by kernel_rfl)) (AllCut.of (l := []) (by kernel_rfl) AllCut.nil) h).of fun v bs' h1 => ?_
  unfold parquetref08_Is.dec at h1; split at h1
  · cases h1; exact ⟨rfl, rfl⟩
  · cases h1
theorem parquetref08_Is.ent_ok (N : Nat) : TabOK1 Try.prog 36 (parquetref08_Is.ent N) := by
  intro args bs a enc h
  simp only [parquetref08_Is.ent] at h
  split at h
  · rename_i hz; have h0 := Option.some.inj h; have h1 := congrArg Prod.fst h0; have h2 := congrArg Prod.snd h0; dsimp only at h1 h2; subst h2; exact FnSpec.of_freeze hz (parquetref08_Is.spec N _ _ _ a h1)
  · cases h
/-! parquet/parquetref04.Mod: function 48 -/
noncomputable def parquetref04_Mod.f (N : Nat) (a1 : Int) (a2 : Int) : Option (Int) :=
  bif !(a2 == 0) then
    bif decide ((Int.tmod a1 a2) < 0) then
      some (wi64 ((Int.tmod a1 a2) + a2))
    else
    some (Int.tmod a1 a2)
  else none
noncomputable def parquetref04_Mod.body : Code := (Try.f48.body).getD .skip
noncomputable def parquetref04_Mod.ty : List (Nat × TI) := []
noncomputable def parquetref04_Mod.E (N : Nat) : Env := { ty := lookN parquetref04_Mod.ty, tab := lookN [], hint := lookN [], cut := lookN [], N := N, res := [.tmp 4], rsh := [.any], nb := 0, ntmps := 14, own := false }
noncomputable def parquetref04_Mod.dec (v : V) (bs : List Blk) : Option (Int) := match v, bs with
  | .c (.int .i64 z0), [] => some z0
  | _, _ => none
set_option maxRecDepth 100000 in
theorem parquetref04_Mod.f_eq (N : Nat) (a1 : Int) (a2 : Int) :
    evFun (parquetref04_Mod.E N) parquetref04_Mod.body [.c (.int .i64 a1), .c (.int .i64 a2)] [] parquetref04_Mod.dec = parquetref04_Mod.f N a1 a2 := by kernel_rfl
noncomputable def parquetref04_Mod.ent (N : Nat) : Entry := { A := Int, fresh := 0, imm := [true, true], dec := fun args bs => match freezeL 0 (fun _ => .dead) [.any, .any] args, bs with
  | some [.c (.int .i64 a1), .c (.int .i64 a2)], [] => some (parquetref04_Mod.f N a1 a2, fun r => .one (.c (.int .i64 r)) [])
  | _, _ => none }
theorem parquetref04_Mod.env (N : Nat) : EnvOK Try.prog (parquetref04_Mod.E N) := ⟨TyOK.nil, TabOK.nil⟩
theorem parquetref04_Mod.res_eq (N : Nat) : (parquetref04_Mod.E N).res = Try.f48.results.toList := by kernel_rfl
theorem parquetref04_Mod.spec (N : Nat) (a1 : Int) (a2 : Int) (r : Int) (h : parquetref04_Mod.f N a1 a2 = some r) : FnSpec Try.prog 48 [.c (.int .i64 a1), .c (.int .i64 a2)] [] (.c (.int .i64 r)) ([]) := by
  rw [← parquetref04_Mod.f_eq] at h
  refine (evFun_ok (parquetref04_Mod.env N) Try_mixed Try.func48 (by kernel_rfl : Try.f48.body = some parquetref04_Mod.body) (by kernel_rfl) (parquetref04_Mod.res_eq N) (by kernel_rfl) (by kernel_rfl) (Nat.le_of_ble_eq_true (by kernel_rfl)) (AllCut.of (l := []) (by kernel_rfl) AllCut.nil) h).of fun v bs' h1 => ?_
  unfold parquetref04_Mod.dec at h1; split at h1
  · cases h1; exact ⟨rfl, rfl⟩
  · cases h1
theorem parquetref04_Mod.ent_ok (N : Nat) : TabOK1 Try.prog 48 (parquetref04_Mod.ent N) := by
  intro args bs a enc h
  simp only [parquetref04_Mod.ent] at h
  split at h
  · rename_i hz; have h0 := Option.some.inj h; have h1 := congrArg Prod.fst h0; have h2 := congrArg Prod.snd h0; dsimp only at h1 h2; subst h2; exact FnSpec.of_freeze hz (parquetref04_Mod.spec N _ _ a h1)
  · cases h
/-! parquet/parquetref08.Floor: function 37 -/
noncomputable def parquetref08_Floor.f (N : Nat) (a1 : Int) (a2 : Int) : Option (Int) :=
  (parquetref04_Mod.f N a1 a2).bind fun r3 =>
  bif !(a2 == 0) then
    some (wi64 (Int.tdiv (wi64 (a1 - r3)) a2))
  else none
noncomputable def parquetref08_Floor.body : Code := (Try.f37.body).getD .skip
noncomputable def parquetref08_Floor.ty : List (Nat × TI) := []
noncomputable def parquetref08_Floor.E (N : Nat) : Env := { ty := lookN parquetref08_Floor.ty, tab := lookN [(48, parquetref04_Mod.ent N)], hint := lookN [], cut := lookN [], N := N, res := [.tmp 4], rsh := [.any], nb := 0, ntmps := 12, own := false }
noncomputable def parquetref08_Floor.dec (v : V) (bs : List Blk) : Option (Int) := match v, bs with
  | .c (.int .i64 z0), [] => some z0
  | _, _ => none
set_option maxRecDepth 100000 in
theorem parquetref08_Floor.f_eq (N : Nat) (a1 : Int) (a2 : Int) :
    evFun (parquetref08_Floor.E N) parquetref08_Floor.body [.c (.int .i64 a1), .c (.int .i64 a2)] [] parquetref08_Floor.dec = parquetref08_Floor.f N a1 a2 := by kernel_rfl
noncomputable def parquetref08_Floor.ent (N : Nat) : Entry := { A := Int, fresh := 0, imm := [true, true], dec := fun args bs => match freezeL 0 (fun _ => .dead) [.any, .any] args, bs with
  | some [.c (.int .i64 a1), .c (.int .i64 a2)], [] => some (parquetref08_Floor.f N a1 a2, fun r => .one (.c (.int .i64 r)) [])
  | _, _ => none }
theorem parquetref08_Floor.env (N : Nat) : EnvOK Try.prog (parquetref08_Floor.E N) := ⟨TyOK.nil, (TabOK.cons (parquetref04_Mod.ent_ok N) TabOK.nil)⟩
theorem parquetref08_Floor.res_eq (N : Nat) : (parquetref08_Floor.E N).res = Try.f37.results.toList := by kernel_rfl
theorem parquetref08_Floor.spec (N : Nat) (a1 : Int) (a2 : Int) (r : Int) (h : parquetref08_Floor.f N a1 a2 = some r) : FnSpec Try.prog 37 [.c (.int .i64 a1), .c (.int .i64 a2)] [] (.c (.int .i64 r)) ([]) := by
  rw [← parquetref08_Floor.f_eq] at h
  refine (evFun_ok (parquetref08_Floor.env N) Try_mixed Try.func37 (by kernel_rfl : Try.f37.body = some parquetref08_Floor.body) (by kernel_rfl) (parquetref08_Floor.res_eq N) (by kernel_rfl) (by kernel_rfl) (Nat.le_of_ble_eq_true (by kernel_rfl)) (AllCut.of (l := []) (by kernel_rfl) AllCut.nil) h).of fun v bs' h1 => ?_
  unfold parquetref08_Floor.dec at h1; split at h1
  · cases h1; exact ⟨rfl, rfl⟩
  · cases h1
theorem parquetref08_Floor.ent_ok (N : Nat) : TabOK1 Try.prog 37 (parquetref08_Floor.ent N) := by
  intro args bs a enc h
  simp only [parquetref08_Floor.ent] at h
  split at h
  · rename_i hz; have h0 := Option.some.inj h; have h1 := congrArg Prod.fst h0; have h2 := congrArg Prod.snd h0; dsimp only at h1 h2; subst h2; exact FnSpec.of_freeze hz (parquetref08_Floor.spec N _ _ a h1)
  · cases h
/-! parquet/parquetref08.Reduce: function 19 -/
noncomputable def parquetref08_Reduce.l5 {R : Type} (N : Nat) : Nat → Int → Int → Int → Int → Int → Int → Int → Int → Int → Int → Int → Int → Int → Int → (Int → Int → Int → Int → Int → Int → Int → Int → Int → Int → Int → Int → Int → Int → Option R) → Option R
  | 0, _, _, _, _, _, _, _, _, _, _, _, _, _, _, _ => none
  | n + 1, x5, x6, x7, x8, x9, x10, x11, x12, x13, x14, x15, x16, x17, x18, k0 =>
    (parquetref08_Is.f N x5 x6 x7).bind fun r19 =>
    bif !r19 then
      bif decide ((wi64 (0 - x5)) ≥ x6) then
        (parquetref08_Floor.f N (wi64 (x5 - x6)) (wi64 (2 * x5))).bind fun r20 =>
        parquetref08_Reduce.l5 N n x5 (wi64 (x6 + (wi64 ((wi64 (2 * r20)) * x5)))) (wi64 ((wi64 ((wi64 ((wi64 (x5 * r20)) + x6)) * r20)) + x7)) x8 x9 x10 x11 x12 x13 x14 x15 (wi64 ((wi64 (r20 * x15)) + x16)) x17 (wi64 ((wi64 (r20 * x17)) + x18)) k0
      else
      bif decide (x6 > x5) then
        (parquetref08_Floor.f N (wi64 (x5 - x6)) (wi64 (2 * x5))).bind fun r21 =>
        parquetref08_Reduce.l5 N n x5 (wi64 (x6 + (wi64 ((wi64 (2 * r21)) * x5)))) (wi64 ((wi64 ((wi64 ((wi64 (x5 * r21)) + x6)) * r21)) + x7)) x8 x9 x10 x11 x12 x13 x14 x15 (wi64 ((wi64 (r21 * x15)) + x16)) x17 (wi64 ((wi64 (r21 * x17)) + x18)) k0
      else
      parquetref08_Reduce.l5 N n x7 (wi64 (0 - x6)) x5 x8 x9 x10 x11 x12 x13 x14 x16 (wi64 (0 - x15)) x18 (wi64 (0 - x17)) k0
    else
    k0 x5 x6 x7 x8 x9 x10 x11 x12 x13 x14 x15 x16 x17 x18
noncomputable def parquetref08_Reduce.f (N : Nat) (a1 : Int) (a2 : Int) (a3 : Int) : Option (Int × Int × Int × Int × Int × Int × Int × Int) :=
  (parquetref08_Check.f N a1 a2 a3).bind fun r4 =>
  bif r4 != 0 then
    some (0, 0, 0, 0, 0, 0, 0, r4)
  else
  parquetref08_Reduce.l5 N N a1 a2 a3 0 0 0 0 0 0 0 1 0 0 1
    (fun y36 y37 y38 y39 y40 y41 y42 y43 y44 y45 y46 y47 y48 y49 =>
      some (y36, y37, y38, y46, y47, y48, y49, 0))
noncomputable def parquetref08_Reduce.body : Code := (Try.f19.body).getD .skip
noncomputable def parquetref08_Reduce.ty : List (Nat × TI) := [(2, ty2), (33, ty33), (40, ty40)]
noncomputable def parquetref08_Reduce.h5 : Hint := ⟨[(1, .box [.any, .any, .any]), (2, .box [.any, .any, .any]), (3, .box [.any, .any, .any, .any]), (6, .box [.any, .any, .any, .any])], [(1, .box [.any, .any, .any]), (2, .box [.any, .any, .any]), (3, .box [.any, .any, .any, .any]), (6, .box [.any, .any, .any, .any])]⟩
noncomputable def parquetref08_Reduce.c5 (N : Nat) : Cut := ⟨fun vs H k => match vs, H with
  | [.ptr 0 0 3, .ptr 1 0 3, .ptr 2 0 4, .ptr 3 0 4], [.vals [.c (.int .i64 x5), .c (.int .i64 x6), .c (.int .i64 x7)], .vals [.c (.int .i64 x8), .c (.int .i64 x9), .c (.int .i64 x10)], .vals [.c (.int .i64 x11), .c (.int .i64 x12), .c (.int .i64 x13), .c (.int .i64 x14)], .vals [.c (.int .i64 x15), .c (.int .i64 x16), .c (.int .i64 x17), .c (.int .i64 x18)]] => parquetref08_Reduce.l5 N N x5 x6 x7 x8 x9 x10 x11 x12 x13 x14 x15 x16 x17 x18 (fun x22 x23 x24 x25 x26 x27 x28 x29 x30 x31 x32 x33 x34 x35 => k (.exit 0) ⟨mkT parquetref08_Reduce.h5.out [.ptr 0 0 3, .ptr 1 0 3, .ptr 2 0 4, .ptr 3 0 4], [.vals [.c (.int .i64 x22), .c (.int .i64 x23), .c (.int .i64 x24)], .vals [.c (.int .i64 x25), .c (.int .i64 x26), .c (.int .i64 x27)], .vals [.c (.int .i64 x28), .c (.int .i64 x29), .c (.int .i64 x30), .c (.int .i64 x31)], .vals [.c (.int .i64 x32), .c (.int .i64 x33), .c (.int .i64 x34), .c (.int .i64 x35)]]⟩)
  | _, _ => none⟩
noncomputable def parquetref08_Reduce.E (N : Nat) : Env := { ty := lookN parquetref08_Reduce.ty, tab := lookN [(35, parquetref08_Check.ent N), (36, parquetref08_Is.ent N), (37, parquetref08_Floor.ent N)], hint := lookN [(5, parquetref08_Reduce.h5)], cut := lookN [(5, parquetref08_Reduce.c5 N)], N := N, res := [.cell 2 33, .cell 3 40, .tmp 4], rsh := [.recd [.any, .any, .any], .recd [.any, .any, .any, .any], .any], nb := 0, ntmps := 104, own := false }
noncomputable def parquetref08_Reduce.b5 : Code := inner ((subLoops parquetref08_Reduce.body).getD 0 .skip)
set_option maxRecDepth 100000 in
theorem parquetref08_Reduce.l5_eq {R : Type} (N n : Nat) (x5 : Int) (x6 : Int) (x7 : Int) (x8 : Int) (x9 : Int) (x10 : Int) (x11 : Int) (x12 : Int) (x13 : Int) (x14 : Int) (x15 : Int) (x16 : Int) (x17 : Int) (x18 : Int) (k : Ex → St → Option R) :
    evLoop 0 parquetref08_Reduce.h5 (fun s k => evCode (parquetref08_Reduce.E N) 393 parquetref08_Reduce.b5 s k) n [.ptr 0 0 3, .ptr 1 0 3, .ptr 2 0 4, .ptr 3 0 4] [.vals [.c (.int .i64 x5), .c (.int .i64 x6), .c (.int .i64 x7)], .vals [.c (.int .i64 x8), .c (.int .i64 x9), .c (.int .i64 x10)], .vals [.c (.int .i64 x11), .c (.int .i64 x12), .c (.int .i64 x13), .c (.int .i64 x14)], .vals [.c (.int .i64 x15), .c (.int .i64 x16), .c (.int .i64 x17), .c (.int .i64 x18)]] k = parquetref08_Reduce.l5 N n x5 x6 x7 x8 x9 x10 x11 x12 x13 x14 x15 x16 x17 x18 (fun x22 x23 x24 x25 x26 x27 x28 x29 x30 x31 x32 x33 x34 x35 => k (.exit 0) ⟨mkT parquetref08_Reduce.h5.out [.ptr 0 0 3, .ptr 1 0 3, .ptr 2 0 4, .ptr 3 0 4], [.vals [.c (.int .i64 x22), .c (.int .i64 x23), .c (.int .i64 x24)], .vals [.c (.int .i64 x25), .c (.int .i64 x26), .c (.int .i64 x27)], .vals [.c (.int .i64 x28), .c (.int .i64 x29), .c (.int .i64 x30), .c (.int .i64 x31)], .vals [.c (.int .i64 x32), .c (.int .i64 x33), .c (.int .i64 x34), .c (.int .i64 x35)]]⟩) := by
  induction n generalizing x5 x6 x7 x8 x9 x10 x11 x12 x13 x14 x15 x16 x17 x18 with
  | zero => kernel_rfl
  | succ n ih =>
    simp only [parquetref08_Reduce.l5, ← ih]
    kernel_rfl
noncomputable def parquetref08_Reduce.dec (v : V) (bs : List Blk) : Option (Int × Int × Int × Int × Int × Int × Int × Int) := match v, bs with
  | .tup [.agg [.c (.int .i64 z0), .c (.int .i64 z1), .c (.int .i64 z2)], .agg [.c (.int .i64 z3), .c (.int .i64 z4), .c (.int .i64 z5), .c (.int .i64 z6)], .c (.int .i64 z7)], [] => some (z0, z1, z2, z3, z4, z5, z6, z7)
  | _, _ => none
set_option maxRecDepth 100000 in
theorem parquetref08_Reduce.f_eq (N : Nat) (a1 : Int) (a2 : Int) (a3 : Int) :
    evFun (parquetref08_Reduce.E N) parquetref08_Reduce.body [.agg [.c (.int .i64 a1), .c (.int .i64 a2), .c (.int .i64 a3)]] [] parquetref08_Reduce.dec = parquetref08_Reduce.f N a1 a2 a3 := by kernel_rfl
noncomputable def parquetref08_Reduce.ent (N : Nat) : Entry := { A := Int × Int × Int × Int × Int × Int × Int × Int, fresh := 0, imm := [true], dec := fun args bs => match freezeL 0 (fun _ => .dead) [.recd [.any, .any, .any]] args, bs with
  | some [.agg [.c (.int .i64 a1), .c (.int .i64 a2), .c (.int .i64 a3)]], [] => some (parquetref08_Reduce.f N a1 a2 a3, fun r => .one (.tup [.agg [.c (.int .i64 r.1), .c (.int .i64 r.2.1), .c (.int .i64 r.2.2.1)], .agg [.c (.int .i64 r.2.2.2.1), .c (.int .i64 r.2.2.2.2.1), .c (.int .i64 r.2.2.2.2.2.1), .c (.int .i64 r.2.2.2.2.2.2.1)], .c (.int .i64 r.2.2.2.2.2.2.2)]) [])
  | _, _ => none }
theorem parquetref08_Reduce.env (N : Nat) : EnvOK Try.prog (parquetref08_Reduce.E N) := ⟨(TyOK.cons ty2_ok (TyOK.cons ty33_ok (TyOK.cons ty40_ok TyOK.nil))), (TabOK.cons (parquetref08_Check.ent_ok N) (TabOK.cons (parquetref08_Is.ent_ok N) (TabOK.cons (parquetref08_Floor.ent_ok N) TabOK.nil)))⟩
theorem parquetref08_Reduce.res_eq (N : Nat) : (parquetref08_Reduce.E N).res = Try.f19.results.toList := by kernel_rfl
theorem parquetref08_Reduce.k5 (N : Nat) : CutOK Try.prog Try.f19 (parquetref08_Reduce.E N) (.loop parquetref08_Reduce.b5) := by
  intro e hd he hh R vs H k r h
  have e1 : (parquetref08_Reduce.E N).cut (loopKey parquetref08_Reduce.b5) = some (parquetref08_Reduce.c5 N) := by kernel_rfl
  have e2 : (parquetref08_Reduce.E N).hint (loopKey parquetref08_Reduce.b5) = some parquetref08_Reduce.h5 := by kernel_rfl
  rw [e1] at he; rw [e2] at hh; cases he; cases hh
  unfold parquetref08_Reduce.c5 at h; dsimp only at h
  split at h
  · rw [← parquetref08_Reduce.l5_eq] at h
    exact loop_ok (evCode_ok (parquetref08_Reduce.env N) Try_mixed (parquetref08_Reduce.res_eq N) 393 parquetref08_Reduce.b5 (AllCut.of (l := []) (by kernel_rfl) AllCut.nil)) h
  · cases h
theorem parquetref08_Reduce.spec (N : Nat) (a1 : Int) (a2 : Int) (a3 : Int) (r : Int × Int × Int × Int × Int × Int × Int × Int) (h : parquetref08_Reduce.f N a1 a2 a3 = some r) : FnSpec Try.prog 19 [.agg [.c (.int .i64 a1), .c (.int .i64 a2), .c (.int .i64 a3)]] [] (.tup [.agg [.c (.int .i64 r.1), .c (.int .i64 r.2.1), .c (.int .i64 r.2.2.1)], .agg [.c (.int .i64 r.2.2.2.1), .c (.int .i64 r.2.2.2.2.1), .c (.int .i64 r.2.2.2.2.2.1), .c (.int .i64 r.2.2.2.2.2.2.1)], .c (.int .i64 r.2.2.2.2.2.2.2)]) ([]) := by
  rw [← parquetref08_Reduce.f_eq] at h
  refine (evFun_ok (parquetref08_Reduce.env N) Try_mixed Try.func19 (by kernel_rfl : Try.f19.body = some parquetref08_Reduce.body) (by kernel_rfl) (parquetref08_Reduce.res_eq N) (by kernel_rfl) (by kernel_rfl) (Nat.le_of_ble_eq_true (by kernel_rfl)) (AllCut.of (l := [(.loop (inner ((subLoops parquetref08_Reduce.body).getD 0 .skip)))]) (by kernel_rfl) (AllCut.cons (parquetref08_Reduce.k5 N) AllCut.nil)) h).of fun v bs' h1 => ?_
  unfold parquetref08_Reduce.dec at h1; split at h1
  · cases h1; exact ⟨rfl, rfl⟩
  · cases h1
theorem parquetref08_Reduce.ent_ok (N : Nat) : TabOK1 Try.prog 19 (parquetref08_Reduce.ent N) := by
  intro args bs a enc h
  simp only [parquetref08_Reduce.ent] at h
  split at h
  · rename_i hz; have h0 := Option.some.inj h; have h1 := congrArg Prod.fst h0; have h2 := congrArg Prod.snd h0; dsimp only at h1 h2; subst h2; exact FnSpec.of_freeze hz (parquetref08_Reduce.spec N _ _ _ a h1)
  · cases h
/-! parquet/parquetlaw11.same: function 15 -/
noncomputable def parquetlaw11_same.l4 {R : Type} (N : Nat) : Nat → List Int → List Int → Int → Int → (Unit → Option R) → (Bool → Option R) → Option R
  | 0, _, _, _, _, _, _ => none
  | n + 1, x3, x4, x5, x6, k0, kr =>
    bif decide (x6 < x5) then
      bif (decide (0 ≤ x6)) && (decide (x6 < (x3.length / 3 : Int))) then
        bif (decide (0 ≤ x6)) && (decide (x6 < (x4.length / 3 : Int))) then
          bif !(((x3.getD (x6.toNat * 3) 0) == (x4.getD (x6.toNat * 3) 0)) && (((x3.getD ((x6.toNat * 3) + 1) 0) == (x4.getD ((x6.toNat * 3) + 1) 0)) && ((x3.getD ((x6.toNat * 3) + 2) 0) == (x4.getD ((x6.toNat * 3) + 2) 0)))) then
            kr false
          else
          parquetlaw11_same.l4 N n x3 x4 x5 (wi64 (x6 + 1)) k0 kr
        else none
      else none
    else
    k0 ()
noncomputable def parquetlaw11_same.f (N : Nat) (a1 : List Int) (a2 : List Int) : Option (Bool) :=
  bif (a1.length / 3 : Int) != (a2.length / 3 : Int) then
    some false
  else
  parquetlaw11_same.l4 N N a1 a2 (a1.length / 3 : Int) 0
    (fun (_ : Unit) =>
      some true)
    (fun y8 =>
      some y8)
noncomputable def parquetlaw11_same.body : Code := (Try.f15.body).getD .skip
noncomputable def parquetlaw11_same.ty : List (Nat × TI) := [(2, ty2), (22, ty22), (33, ty33)]
noncomputable def parquetlaw11_same.h4 : Hint := ⟨[(0, .il .i64 3), (1, .il .i64 3), (12, .any), (13, .any)], []⟩
noncomputable def parquetlaw11_same.c4 (N : Nat) : Cut := ⟨fun vs H k => match vs, H with
  | [.il .i64 3 x3, .il .i64 3 x4, .c (.int .i64 x5), .c (.int .i64 x6)], [] => parquetlaw11_same.l4 N N x3 x4 x5 x6 (fun (_ : Unit) => k (.exit 0) ⟨mkT parquetlaw11_same.h4.out [], []⟩) (fun x7 => k (.ret (.c (.bool x7)) []) .nil)
  | _, _ => none⟩
noncomputable def parquetlaw11_same.E (N : Nat) : Env := { ty := lookN parquetlaw11_same.ty, tab := lookN [], hint := lookN [(4, parquetlaw11_same.h4)], cut := lookN [(4, parquetlaw11_same.c4 N)], N := N, res := [.tmp 4], rsh := [.any], nb := 0, ntmps := 26, own := false }
noncomputable def parquetlaw11_same.b4 : Code := inner ((subLoops parquetlaw11_same.body).getD 0 .skip)
set_option maxRecDepth 100000 in
theorem parquetlaw11_same.l4_eq {R : Type} (N n : Nat) (x3 : List Int) (x4 : List Int) (x5 : Int) (x6 : Int) (k : Ex → St → Option R) :
    evLoop 0 parquetlaw11_same.h4 (fun s k => evCode (parquetlaw11_same.E N) 394 parquetlaw11_same.b4 s k) n [.il .i64 3 x3, .il .i64 3 x4, .c (.int .i64 x5), .c (.int .i64 x6)] [] k = parquetlaw11_same.l4 N n x3 x4 x5 x6 (fun (_ : Unit) => k (.exit 0) ⟨mkT parquetlaw11_same.h4.out [], []⟩) (fun x7 => k (.ret (.c (.bool x7)) []) .nil) := by
  induction n generalizing x3 x4 x5 x6 with
  | zero => kernel_rfl
  | succ n ih =>
    simp only [parquetlaw11_same.l4, ← ih]
    kernel_rfl
noncomputable def parquetlaw11_same.dec (v : V) (bs : List Blk) : Option (Bool) := match v, bs with
  | .c (.bool z0), [] => some z0
  | _, _ => none
set_option maxRecDepth 100000 in
theorem parquetlaw11_same.f_eq (N : Nat) (a1 : List Int) (a2 : List Int) :
    evFun (parquetlaw11_same.E N) parquetlaw11_same.body [.il .i64 3 a1, .il .i64 3 a2] [] parquetlaw11_same.dec = parquetlaw11_same.f N a1 a2 := by kernel_rfl
noncomputable def parquetlaw11_same.ent (N : Nat) : Entry := { A := Bool, fresh := 0, imm := [true, true], dec := fun args bs => match freezeL 0 (fun _ => .dead) [.il .i64 3, .il .i64 3] args, bs with
  | some [.il .i64 3 a1, .il .i64 3 a2], [] => some (parquetlaw11_same.f N a1 a2, fun r => .one (.c (.bool r)) [])
  | _, _ => none }
theorem parquetlaw11_same.env (N : Nat) : EnvOK Try.prog (parquetlaw11_same.E N) := ⟨(TyOK.cons ty2_ok (TyOK.cons ty22_ok (TyOK.cons ty33_ok TyOK.nil))), TabOK.nil⟩
theorem parquetlaw11_same.res_eq (N : Nat) : (parquetlaw11_same.E N).res = Try.f15.results.toList := by kernel_rfl
theorem parquetlaw11_same.k4 (N : Nat) : CutOK Try.prog Try.f15 (parquetlaw11_same.E N) (.loop parquetlaw11_same.b4) := by
  intro e hd he hh R vs H k r h
  have e1 : (parquetlaw11_same.E N).cut (loopKey parquetlaw11_same.b4) = some (parquetlaw11_same.c4 N) := by kernel_rfl
  have e2 : (parquetlaw11_same.E N).hint (loopKey parquetlaw11_same.b4) = some parquetlaw11_same.h4 := by kernel_rfl
  rw [e1] at he; rw [e2] at hh; cases he; cases hh
  unfold parquetlaw11_same.c4 at h; dsimp only at h
  split at h
  · rw [← parquetlaw11_same.l4_eq] at h
    exact loop_ok (evCode_ok (parquetlaw11_same.env N) Try_mixed (parquetlaw11_same.res_eq N) 394 parquetlaw11_same.b4 (AllCut.of (l := []) (by kernel_rfl) AllCut.nil)) h
  · cases h
theorem parquetlaw11_same.spec (N : Nat) (a1 : List Int) (a2 : List Int) (r : Bool) (h : parquetlaw11_same.f N a1 a2 = some r) : FnSpec Try.prog 15 [.il .i64 3 a1, .il .i64 3 a2] [] (.c (.bool r)) ([]) := by
  rw [← parquetlaw11_same.f_eq] at h
  refine (evFun_ok (parquetlaw11_same.env N) Try_mixed Try.func15 (by kernel_rfl : Try.f15.body = some parquetlaw11_same.body) (by kernel_rfl) (parquetlaw11_same.res_eq N) (by kernel_rfl) (by kernel_rfl) (Nat.le_of_ble_eq_true (by kernel_rfl)) (AllCut.of (l := [(.loop (inner ((subLoops parquetlaw11_same.body).getD 0 .skip)))]) (by kernel_rfl) (AllCut.cons (parquetlaw11_same.k4 N) AllCut.nil)) h).of fun v bs' h1 => ?_
  unfold parquetlaw11_same.dec at h1; split at h1
  · cases h1; exact ⟨rfl, rfl⟩
  · cases h1
theorem parquetlaw11_same.ent_ok (N : Nat) : TabOK1 Try.prog 15 (parquetlaw11_same.ent N) := by
  intro args bs a enc h
  simp only [parquetlaw11_same.ent] at h
  split at h
  · rename_i hz; have h0 := Option.some.inj h; have h1 := congrArg Prod.fst h0; have h2 := congrArg Prod.snd h0; dsimp only at h1 h2; subst h2; exact FnSpec.of_freeze hz (parquetlaw11_same.spec N _ _ a h1)
  · cases h
/-! parquet/parquetlaw11.gcd: function 25 -/
noncomputable def parquetlaw11_gcd.l6 {R : Type} (N : Nat) : Nat → Int → Int → List Int → Int → Int → (Int → List Int → Int → Int → Option R) → Option R
  | 0, _, _, _, _, _, _ => none
  | n + 1, x6, x7, x8, x9, x10, k2 =>
    bif decide (x7 > 0) then
      bif !(x7 == 0) then
        parquetlaw11_gcd.l6 N n x7 (Int.tmod x6 x7) x8 x9 x10 k2
      else none
    else
    k2 x6 x8 x9 x10
noncomputable def parquetlaw11_gcd.l3 {R : Type} (N : Nat) : Nat → Int → List Int → Int → Int → (Int → Option R) → Option R
  | 0, _, _, _, _, _ => none
  | n + 1, x2, x3, x4, x5, k0 =>
    bif decide (x5 < x4) then
      bif (decide (0 ≤ x5)) && (decide (x5 < (x3.length : Int))) then
        parquetlaw11_gcd.l6 N N x2 (mx2 (x3.getD x5.toNat 0) (wi64 (0 - (x3.getD x5.toNat 0)))) x3 x4 x5
          (fun y15 y16 y17 y18 =>
            parquetlaw11_gcd.l3 N n y15 y16 y17 (wi64 (y18 + 1)) k0)
      else none
    else
    k0 x2
noncomputable def parquetlaw11_gcd.f (N : Nat) (a1 : List Int) : Option (Int) :=
  parquetlaw11_gcd.l3 N N 0 a1 (a1.length : Int) 0
    (fun y20 =>
      some y20)
noncomputable def parquetlaw11_gcd.body : Code := (Try.f25.body).getD .skip
noncomputable def parquetlaw11_gcd.ty : List (Nat × TI) := [(2, ty2), (61, ty61)]
noncomputable def parquetlaw11_gcd.h3 : Hint := ⟨[(3, .any), (6, .il .i64 1), (7, .any), (8, .any)], [(3, .any)]⟩
noncomputable def parquetlaw11_gcd.h6 : Hint := ⟨[(3, .any), (5, .any), (6, .il .i64 1), (7, .any), (8, .any)], [(3, .any), (6, .il .i64 1), (7, .any), (8, .any)]⟩
noncomputable def parquetlaw11_gcd.c6 (N : Nat) : Cut := ⟨fun vs H k => match vs, H with
  | [.c (.int .i64 x6), .c (.int .i64 x7), .il .i64 1 x8, .c (.int .i64 x9), .c (.int .i64 x10)], [] => parquetlaw11_gcd.l6 N N x6 x7 x8 x9 x10 (fun x11 x12 x13 x14 => k (.exit 2) ⟨mkT parquetlaw11_gcd.h6.out [.c (.int .i64 x11), .il .i64 1 x12, .c (.int .i64 x13), .c (.int .i64 x14)], []⟩)
  | _, _ => none⟩
noncomputable def parquetlaw11_gcd.c3 (N : Nat) : Cut := ⟨fun vs H k => match vs, H with
  | [.c (.int .i64 x2), .il .i64 1 x3, .c (.int .i64 x4), .c (.int .i64 x5)], [] => parquetlaw11_gcd.l3 N N x2 x3 x4 x5 (fun x19 => k (.exit 0) ⟨mkT parquetlaw11_gcd.h3.out [.c (.int .i64 x19)], []⟩)
  | _, _ => none⟩
noncomputable def parquetlaw11_gcd.E (N : Nat) : Env := { ty := lookN parquetlaw11_gcd.ty, tab := lookN [], hint := lookN [(3, parquetlaw11_gcd.h3), (6, parquetlaw11_gcd.h6)], cut := lookN [(6, parquetlaw11_gcd.c6 N), (3, parquetlaw11_gcd.c3 N)], N := N, res := [.tmp 2], rsh := [.any], nb := 0, ntmps := 24, own := false }
noncomputable def parquetlaw11_gcd.b6 : Code := inner ((subLoops parquetlaw11_gcd.body).getD 1 .skip)
set_option maxRecDepth 100000 in
theorem parquetlaw11_gcd.l6_eq {R : Type} (N n : Nat) (x6 : Int) (x7 : Int) (x8 : List Int) (x9 : Int) (x10 : Int) (k : Ex → St → Option R) :
    evLoop 0 parquetlaw11_gcd.h6 (fun s k => evCode (parquetlaw11_gcd.E N) 386 parquetlaw11_gcd.b6 s k) n [.c (.int .i64 x6), .c (.int .i64 x7), .il .i64 1 x8, .c (.int .i64 x9), .c (.int .i64 x10)] [] k = parquetlaw11_gcd.l6 N n x6 x7 x8 x9 x10 (fun x11 x12 x13 x14 => k (.exit 2) ⟨mkT parquetlaw11_gcd.h6.out [.c (.int .i64 x11), .il .i64 1 x12, .c (.int .i64 x13), .c (.int .i64 x14)], []⟩) := by
  induction n generalizing x6 x7 x8 x9 x10 with
  | zero => kernel_rfl
  | succ n ih =>
    simp only [parquetlaw11_gcd.l6, ← ih]
    kernel_rfl
noncomputable def parquetlaw11_gcd.b3 : Code := inner ((subLoops parquetlaw11_gcd.body).getD 0 .skip)
set_option maxRecDepth 100000 in
theorem parquetlaw11_gcd.l3_eq {R : Type} (N n : Nat) (x2 : Int) (x3 : List Int) (x4 : Int) (x5 : Int) (k : Ex → St → Option R) :
    evLoop 0 parquetlaw11_gcd.h3 (fun s k => evCode (parquetlaw11_gcd.E N) 394 parquetlaw11_gcd.b3 s k) n [.c (.int .i64 x2), .il .i64 1 x3, .c (.int .i64 x4), .c (.int .i64 x5)] [] k = parquetlaw11_gcd.l3 N n x2 x3 x4 x5 (fun x19 => k (.exit 0) ⟨mkT parquetlaw11_gcd.h3.out [.c (.int .i64 x19)], []⟩) := by
  induction n generalizing x2 x3 x4 x5 with
  | zero => kernel_rfl
  | succ n ih =>
    simp only [parquetlaw11_gcd.l3, ← ih]
    kernel_rfl
noncomputable def parquetlaw11_gcd.dec (v : V) (bs : List Blk) : Option (Int) := match v, bs with
  | .c (.int .i64 z0), [] => some z0
  | _, _ => none
set_option maxRecDepth 100000 in
theorem parquetlaw11_gcd.f_eq (N : Nat) (a1 : List Int) :
    evFun (parquetlaw11_gcd.E N) parquetlaw11_gcd.body [.il .i64 1 a1] [] parquetlaw11_gcd.dec = parquetlaw11_gcd.f N a1 := by kernel_rfl
noncomputable def parquetlaw11_gcd.ent (N : Nat) : Entry := { A := Int, fresh := 0, imm := [true], dec := fun args bs => match freezeL 0 (fun _ => .dead) [.il .i64 1] args, bs with
  | some [.il .i64 1 a1], [] => some (parquetlaw11_gcd.f N a1, fun r => .one (.c (.int .i64 r)) [])
  | _, _ => none }
theorem parquetlaw11_gcd.env (N : Nat) : EnvOK Try.prog (parquetlaw11_gcd.E N) := ⟨(TyOK.cons ty2_ok (TyOK.cons ty61_ok TyOK.nil)), TabOK.nil⟩
theorem parquetlaw11_gcd.res_eq (N : Nat) : (parquetlaw11_gcd.E N).res = Try.f25.results.toList := by kernel_rfl
theorem parquetlaw11_gcd.k6 (N : Nat) : CutOK Try.prog Try.f25 (parquetlaw11_gcd.E N) (.loop parquetlaw11_gcd.b6) := by
  intro e hd he hh R vs H k r h
  have e1 : (parquetlaw11_gcd.E N).cut (loopKey parquetlaw11_gcd.b6) = some (parquetlaw11_gcd.c6 N) := by kernel_rfl
  have e2 : (parquetlaw11_gcd.E N).hint (loopKey parquetlaw11_gcd.b6) = some parquetlaw11_gcd.h6 := by kernel_rfl
  rw [e1] at he; rw [e2] at hh; cases he; cases hh
  unfold parquetlaw11_gcd.c6 at h; dsimp only at h
  split at h
  · rw [← parquetlaw11_gcd.l6_eq] at h
    exact loop_ok (evCode_ok (parquetlaw11_gcd.env N) Try_mixed (parquetlaw11_gcd.res_eq N) 386 parquetlaw11_gcd.b6 (AllCut.of (l := []) (by kernel_rfl) AllCut.nil)) h
  · cases h
theorem parquetlaw11_gcd.k3 (N : Nat) : CutOK Try.prog Try.f25 (parquetlaw11_gcd.E N) (.loop parquetlaw11_gcd.b3) := by
  intro e hd he hh R vs H k r h
  have e1 : (parquetlaw11_gcd.E N).cut (loopKey parquetlaw11_gcd.b3) = some (parquetlaw11_gcd.c3 N) := by kernel_rfl
  have e2 : (parquetlaw11_gcd.E N).hint (loopKey parquetlaw11_gcd.b3) = some parquetlaw11_gcd.h3 := by kernel_rfl
  rw [e1] at he; rw [e2] at hh; cases he; cases hh
  unfold parquetlaw11_gcd.c3 at h; dsimp only at h
  split at h
  · rw [← parquetlaw11_gcd.l3_eq] at h
    exact loop_ok (evCode_ok (parquetlaw11_gcd.env N) Try_mixed (parquetlaw11_gcd.res_eq N) 394 parquetlaw11_gcd.b3 (AllCut.of (l := [(.loop (inner ((subLoops parquetlaw11_gcd.body).getD 1 .skip)))]) (by kernel_rfl) (AllCut.cons (parquetlaw11_gcd.k6 N) AllCut.nil))) h
  · cases h
theorem parquetlaw11_gcd.spec (N : Nat) (a1 : List Int) (r : Int) (h : parquetlaw11_gcd.f N a1 = some r) : FnSpec Try.prog 25 [.il .i64 1 a1] [] (.c (.int .i64 r)) ([]) := by
  rw [← parquetlaw11_gcd.f_eq] at h
  refine (evFun_ok (parquetlaw11_gcd.env N) Try_mixed Try.func25 (by kernel_rfl : Try.f25.body = some parquetlaw11_gcd.body) (by kernel_rfl) (parquetlaw11_gcd.res_eq N) (by kernel_rfl) (by kernel_rfl) (Nat.le_of_ble_eq_true (by kernel_rfl)) (AllCut.of (l := [(.loop (inner ((subLoops parquetlaw11_gcd.body).getD 0 .skip))), (.loop (inner ((subLoops parquetlaw11_gcd.body).getD 1 .skip)))]) (by kernel_rfl) (AllCut.cons (parquetlaw11_gcd.k3 N) (AllCut.cons (parquetlaw11_gcd.k6 N) AllCut.nil))) h).of fun v bs' h1 => ?_
  unfold parquetlaw11_gcd.dec at h1; split at h1
  · cases h1; exact ⟨rfl, rfl⟩
  · cases h1
theorem parquetlaw11_gcd.ent_ok (N : Nat) : TabOK1 Try.prog 25 (parquetlaw11_gcd.ent N) := by
  intro args bs a enc h
  simp only [parquetlaw11_gcd.ent] at h
  split at h
  · rename_i hz; have h0 := Option.some.inj h; have h1 := congrArg Prod.fst h0; have h2 := congrArg Prod.snd h0; dsimp only at h1 h2; subst h2; exact FnSpec.of_freeze hz (parquetlaw11_gcd.spec N _ a h1)
  · cases h
end Go.Proofs.Ytifnooogklfifaa
