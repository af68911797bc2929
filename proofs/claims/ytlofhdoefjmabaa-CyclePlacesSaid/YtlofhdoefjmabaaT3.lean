-- The seat's functions as the evaluator goes through them: typed models and their laws.
import Derived.Test.YtlofhdoefjmabaaProg
import Derived.Test.YtlofhdoefjmabaaEvF
import Derived.Test.YtlofhdoefjmabaaT2
import Derived.KernelRfl
namespace Go.Proofs.Ytlofhdoefjmabaa
open Go.Proofs.Ytlofhdoefjmabaa.Ev
set_option linter.unusedVariables false
open Go

noncomputable def ty87 : TI := ⟨.slice 3, 1, 24, [.slice none 0 0]⟩
theorem ty87_ok : TyOK1 Try.prog 87 ty87 := tyok_of (by kernel_rfl) (by kernel_rfl) (by kernel_rfl) (by kernel_rfl) (by kernel_rfl) (by kernel_rfl) (by kernel_rfl) (Try.underlying87) (by kernel_rfl)
/-! cmp.isNaN[int64]: function 66 -/
noncomputable def cmp_isNaN_int64_.f (N : Nat) (a1 : Int) : Option (Bool) :=
  some (a1 != a1)
noncomputable def cmp_isNaN_int64_.body : Code := (Try.f66.body).getD .skip
noncomputable def cmp_isNaN_int64_.ty : List (Nat × TI) := []
noncomputable def cmp_isNaN_int64_.E (N : Nat) : Env := { ty := lookN cmp_isNaN_int64_.ty, tab := lookN [], hint := lookN [], cut := lookN [], N := N, res := [.tmp 2], rsh := [.any], nb := 0, ntmps := 6, own := false }
noncomputable def cmp_isNaN_int64_.dec (v : V) (bs : List Blk) : Option (Bool) := match v, bs with
  | .c (.bool z0), [] => some z0
  | _, _ => none
set_option maxRecDepth 100000 in
theorem cmp_isNaN_int64_.f_eq (N : Nat) (a1 : Int) :
    evFun (cmp_isNaN_int64_.E N) cmp_isNaN_int64_.body [.c (.int .i64 a1)] [] cmp_isNaN_int64_.dec = cmp_isNaN_int64_.f N a1 := by kernel_rfl
noncomputable def cmp_isNaN_int64_.ent (N : Nat) : Entry := { A := Bool, fresh := 0, imm := [true], dec := fun args bs => match freezeL 0 (fun _ => .dead) [.any] args, bs with
  | some [.c (.int .i64 a1)], [] => some (cmp_isNaN_int64_.f N a1, fun r => .one (.c (.bool r)) [])
  | _, _ => none }
theorem cmp_isNaN_int64_.env (N : Nat) : EnvOK Try.prog (cmp_isNaN_int64_.E N) := ⟨TyOK.nil, TabOK.nil⟩
theorem cmp_isNaN_int64_.res_eq (N : Nat) : (cmp_isNaN_int64_.E N).res = Try.f66.results.toList := by kernel_rfl
theorem cmp_isNaN_int64_.spec (N : Nat) (a1 : Int) (r : Bool) (h : cmp_isNaN_int64_.f N a1 = some r) : FnSpec Try.prog 66 [.c (.int .i64 a1)] [] (.c (.bool r)) ([]) := by
  rw [← cmp_isNaN_int64_.f_eq] at h
  refine (evFun_ok (cmp_isNaN_int64_.env N) Try_mixed Try.func66 (by kernel_rfl : Try.f66.body = some cmp_isNaN_int64_.body) (by kernel_rfl) (cmp_isNaN_int64_.res_eq N) (by kernel_rfl) (by kernel_rfl) (Nat.le_of_ble_eq_true (by kernel_rfl)) (AllCut.of (l := []) (by kernel_rfl) AllCut.nil) h).of fun v bs' h1 => ?_
  unfold cmp_isNaN_int64_.dec at h1; split at h1
  · cases h1; exact ⟨rfl, rfl⟩
  · cases h1
theorem cmp_isNaN_int64_.ent_ok (N : Nat) : TabOK1 Try.prog 66 (cmp_isNaN_int64_.ent N) := by
  intro args bs a enc h
  simp only [cmp_isNaN_int64_.ent] at h
  split at h
  · rename_i hz; have h0 := Option.some.inj h; have h1 := congrArg Prod.fst h0; have h2 := congrArg Prod.snd h0; dsimp only at h1 h2; subst h2; exact FnSpec.of_freeze hz (cmp_isNaN_int64_.spec N _ a h1)
  · cases h
/-! cmp.Compare[int64]: function 55 -/
noncomputable def cmp_Compare_int64_.f (N : Nat) (a1 : Int) (a2 : Int) : Option (Int) :=
  (cmp_isNaN_int64_.f N a1).bind fun r3 =>
  (cmp_isNaN_int64_.f N a2).bind fun r4 =>
  bif r3 then
    bif r4 then
      some 0
    else
    some (-1)
  else
  bif r4 then
    some 1
  else
  bif decide (a1 < a2) then
    some (-1)
  else
  bif decide (a1 > a2) then
    some 1
  else
  some 0
noncomputable def cmp_Compare_int64_.body : Code := (Try.f55.body).getD .skip
noncomputable def cmp_Compare_int64_.ty : List (Nat × TI) := []
noncomputable def cmp_Compare_int64_.E (N : Nat) : Env := { ty := lookN cmp_Compare_int64_.ty, tab := lookN [(66, cmp_isNaN_int64_.ent N)], hint := lookN [], cut := lookN [], N := N, res := [.tmp 4], rsh := [.any], nb := 0, ntmps := 20, own := false }
noncomputable def cmp_Compare_int64_.dec (v : V) (bs : List Blk) : Option (Int) := match v, bs with
  | .c (.int .i64 z0), [] => some z0
  | _, _ => none
set_option maxRecDepth 100000 in
theorem cmp_Compare_int64_.f_eq (N : Nat) (a1 : Int) (a2 : Int) :
    evFun (cmp_Compare_int64_.E N) cmp_Compare_int64_.body [.c (.int .i64 a1), .c (.int .i64 a2)] [] cmp_Compare_int64_.dec = cmp_Compare_int64_.f N a1 a2 := by kernel_rfl
noncomputable def cmp_Compare_int64_.ent (N : Nat) : Entry := { A := Int, fresh := 0, imm := [true, true], dec := fun args bs => match freezeL 0 (fun _ => .dead) [.any, .any] args, bs with
  | some [.c (.int .i64 a1), .c (.int .i64 a2)], [] => some (cmp_Compare_int64_.f N a1 a2, fun r => .one (.c (.int .i64 r)) [])
  | _, _ => none }
theorem cmp_Compare_int64_.env (N : Nat) : EnvOK Try.prog (cmp_Compare_int64_.E N) := ⟨TyOK.nil, (TabOK.cons (cmp_isNaN_int64_.ent_ok N) TabOK.nil)⟩
theorem cmp_Compare_int64_.res_eq (N : Nat) : (cmp_Compare_int64_.E N).res = Try.f55.results.toList := by kernel_rfl
theorem cmp_Compare_int64_.spec (N : Nat) (a1 : Int) (a2 : Int) (r : Int) (h : cmp_Compare_int64_.f N a1 a2 = some r) : FnSpec Try.prog 55 [.c (.int .i64 a1), .c (.int .i64 a2)] [] (.c (.int .i64 r)) ([]) := by
  rw [← cmp_Compare_int64_.f_eq] at h
  refine (evFun_ok (cmp_Compare_int64_.env N) Try_mixed Try.func55 (by kernel_rfl : Try.f55.body = some cmp_Compare_int64_.body) (by kernel_rfl) (cmp_Compare_int64_.res_eq N) (by kernel_rfl) (by kernel_rfl) (Nat.le_of_ble_eq_true (by kernel_rfl)) (AllCut.of (l := []) (by kernel_rfl) AllCut.nil) h).of fun v bs' h1 => ?_
  unfold cmp_Compare_int64_.dec at h1; split at h1
  · cases h1; exact ⟨rfl, rfl⟩
  · cases h1
theorem cmp_Compare_int64_.ent_ok (N : Nat) : TabOK1 Try.prog 55 (cmp_Compare_int64_.ent N) := by
  intro args bs a enc h
  simp only [cmp_Compare_int64_.ent] at h
  split at h
  · rename_i hz; have h0 := Option.some.inj h; have h1 := congrArg Prod.fst h0; have h2 := congrArg Prod.snd h0; dsimp only at h1 h2; subst h2; exact FnSpec.of_freeze hz (cmp_Compare_int64_.spec N _ _ a h1)
  · cases h
/-! cmp.Or[int]: function 54 -/
noncomputable def cmp_Or_int_.l3 {R : Type} (N : Nat) : Nat → Int → List Int → Int → Int → (Int → Option R) → (Int → Option R) → Option R
  | 0, _, _, _, _, _, _ => none
  | n + 1, x2, x3, x4, x5, k0, kr =>
    bif decide (x5 < x4) then
      bif (decide (0 ≤ x5)) && (decide (x5 < (x3.length : Int))) then
        bif (x3.getD x5.toNat 0) != x2 then
          kr (x3.getD x5.toNat 0)
        else
        cmp_Or_int_.l3 N n x2 x3 x4 (wi64 (x5 + 1)) k0 kr
      else none
    else
    k0 x2
noncomputable def cmp_Or_int_.f (N : Nat) (a1 : List Int) : Option (Int) :=
  cmp_Or_int_.l3 N N 0 a1 (a1.length : Int) 0
    (fun y8 =>
      some y8)
    (fun y9 =>
      some y9)
noncomputable def cmp_Or_int_.body : Code := (Try.f54.body).getD .skip
noncomputable def cmp_Or_int_.ty : List (Nat × TI) := [(3, ty3), (87, ty87)]
noncomputable def cmp_Or_int_.h3 : Hint := ⟨[(3, .any), (6, .il .i64 1), (7, .any), (8, .any)], [(3, .any)]⟩
noncomputable def cmp_Or_int_.c3 (N : Nat) : Cut := ⟨fun vs H k => match vs, H with
  | [.c (.int .i64 x2), .il .i64 1 x3, .c (.int .i64 x4), .c (.int .i64 x5)], [] => cmp_Or_int_.l3 N N x2 x3 x4 x5 (fun x7 => k (.exit 0) ⟨mkT cmp_Or_int_.h3.out [.c (.int .i64 x7)], []⟩) (fun x6 => k (.ret (.c (.int .i64 x6)) []) .nil)
  | _, _ => none⟩
noncomputable def cmp_Or_int_.E (N : Nat) : Env := { ty := lookN cmp_Or_int_.ty, tab := lookN [], hint := lookN [(3, cmp_Or_int_.h3)], cut := lookN [(3, cmp_Or_int_.c3 N)], N := N, res := [.tmp 2], rsh := [.any], nb := 0, ntmps := 18, own := false }
noncomputable def cmp_Or_int_.b3 : Code := inner ((subLoops cmp_Or_int_.body).getD 0 .skip)
set_option maxRecDepth 100000 in
theorem cmp_Or_int_.l3_eq {R : Type} (N n : Nat) (x2 : Int) (x3 : List Int) (x4 : Int) (x5 : Int) (k : Ex → St → Option R) :
    evLoop 0 cmp_Or_int_.h3 (fun s k => evCode (cmp_Or_int_.E N) 394 cmp_Or_int_.b3 s k) n [.c (.int .i64 x2), .il .i64 1 x3, .c (.int .i64 x4), .c (.int .i64 x5)] [] k = cmp_Or_int_.l3 N n x2 x3 x4 x5 (fun x7 => k (.exit 0) ⟨mkT cmp_Or_int_.h3.out [.c (.int .i64 x7)], []⟩) (fun x6 => k (.ret (.c (.int .i64 x6)) []) .nil) := by
  induction n generalizing x2 x3 x4 x5 with
  | zero => kernel_rfl
  | succ n ih =>
    simp only [cmp_Or_int_.l3, ← ih]
    kernel_rfl
noncomputable def cmp_Or_int_.dec (v : V) (bs : List Blk) : Option (Int) := match v, bs with
  | .c (.int .i64 z0), [] => some z0
  | _, _ => none
set_option maxRecDepth 100000 in
theorem cmp_Or_int_.f_eq (N : Nat) (a1 : List Int) :
    evFun (cmp_Or_int_.E N) cmp_Or_int_.body [.il .i64 1 a1] [] cmp_Or_int_.dec = cmp_Or_int_.f N a1 := by kernel_rfl
noncomputable def cmp_Or_int_.ent (N : Nat) : Entry := { A := Int, fresh := 0, imm := [true], dec := fun args bs => match freezeL 0 (fun _ => .dead) [.il .i64 1] args, bs with
  | some [.il .i64 1 a1], [] => some (cmp_Or_int_.f N a1, fun r => .one (.c (.int .i64 r)) [])
  | _, _ => none }
theorem cmp_Or_int_.env (N : Nat) : EnvOK Try.prog (cmp_Or_int_.E N) := ⟨(TyOK.cons ty3_ok (TyOK.cons ty87_ok TyOK.nil)), TabOK.nil⟩
theorem cmp_Or_int_.res_eq (N : Nat) : (cmp_Or_int_.E N).res = Try.f54.results.toList := by kernel_rfl
theorem cmp_Or_int_.k3 (N : Nat) : CutOK Try.prog Try.f54 (cmp_Or_int_.E N) (.loop cmp_Or_int_.b3) := by
  intro e hd he hh R vs H k r h
  have e1 : (cmp_Or_int_.E N).cut (loopKey cmp_Or_int_.b3) = some (cmp_Or_int_.c3 N) := by kernel_rfl
  have e2 : (cmp_Or_int_.E N).hint (loopKey cmp_Or_int_.b3) = some cmp_Or_int_.h3 := by kernel_rfl
  rw [e1] at he; rw [e2] at hh; cases he; cases hh
  unfold cmp_Or_int_.c3 at h; dsimp only at h
  split at h
  · rw [← cmp_Or_int_.l3_eq] at h
    exact loop_ok (evCode_ok (cmp_Or_int_.env N) Try_mixed (cmp_Or_int_.res_eq N) 394 cmp_Or_int_.b3 (AllCut.of (l := []) (by kernel_rfl) AllCut.nil)) h
  · cases h
theorem cmp_Or_int_.spec (N : Nat) (a1 : List Int) (r : Int) (h : cmp_Or_int_.f N a1 = some r) : FnSpec Try.prog 54 [.il .i64 1 a1] [] (.c (.int .i64 r)) ([]) := by
  rw [← cmp_Or_int_.f_eq] at h
  refine (evFun_ok (cmp_Or_int_.env N) Try_mixed Try.func54 (by kernel_rfl : Try.f54.body = some cmp_Or_int_.body) (by kernel_rfl) (cmp_Or_int_.res_eq N) (by kernel_rfl) (by kernel_rfl) (Nat.le_of_ble_eq_true (by kernel_rfl)) (AllCut.of (l := [(.loop (inner ((subLoops cmp_Or_int_.body).getD 0 .skip)))]) (by kernel_rfl) (AllCut.cons (cmp_Or_int_.k3 N) AllCut.nil)) h).of fun v bs' h1 => ?_
  unfold cmp_Or_int_.dec at h1; split at h1
  · cases h1; exact ⟨rfl, rfl⟩
  · cases h1
theorem cmp_Or_int_.ent_ok (N : Nat) : TabOK1 Try.prog 54 (cmp_Or_int_.ent N) := by
  intro args bs a enc h
  simp only [cmp_Or_int_.ent] at h
  split at h
  · rename_i hz; have h0 := Option.some.inj h; have h1 := congrArg Prod.fst h0; have h2 := congrArg Prod.snd h0; dsimp only at h1 h2; subst h2; exact FnSpec.of_freeze hz (cmp_Or_int_.spec N _ a h1)
  · cases h
/-! parquet/cycle.rises: function 47 -/
noncomputable def cycle_rises.f (N : Nat) (a1 : Int) (a2 : Int) (a3 : Int) (a4 : Int) (a5 : Int) (a6 : Int) : Option (Int) :=
  (cmp_Compare_int64_.f N a1 a4).bind fun r7 =>
  (cmp_Compare_int64_.f N a2 a5).bind fun r8 =>
  (cmp_Compare_int64_.f N a3 a6).bind fun r9 =>
  (cmp_Or_int_.f N [r7, r8, r9]).bind fun r10 =>
  some r10
noncomputable def cycle_rises.body : Code := (Try.f47.body).getD .skip
noncomputable def cycle_rises.ty : List (Nat × TI) := [(2, ty2), (3, ty3), (23, ty23), (87, ty87)]
noncomputable def cycle_rises.E (N : Nat) : Env := { ty := lookN cycle_rises.ty, tab := lookN [(55, cmp_Compare_int64_.ent N), (54, cmp_Or_int_.ent N)], hint := lookN [], cut := lookN [], N := N, res := [.tmp 4], rsh := [.any], nb := 0, ntmps := 22, own := false }
noncomputable def cycle_rises.dec (v : V) (bs : List Blk) : Option (Int) := match v, bs with
  | .c (.int .i64 z0), [] => some z0
  | _, _ => none
set_option maxRecDepth 100000 in
theorem cycle_rises.f_eq (N : Nat) (a1 : Int) (a2 : Int) (a3 : Int) (a4 : Int) (a5 : Int) (a6 : Int) :
    evFun (cycle_rises.E N) cycle_rises.body [.agg [.c (.int .i64 a1), .c (.int .i64 a2), .c (.int .i64 a3)], .agg [.c (.int .i64 a4), .c (.int .i64 a5), .c (.int .i64 a6)]] [] cycle_rises.dec = cycle_rises.f N a1 a2 a3 a4 a5 a6 := by kernel_rfl
noncomputable def cycle_rises.ent (N : Nat) : Entry := { A := Int, fresh := 0, imm := [true, true], dec := fun args bs => match freezeL 0 (fun _ => .dead) [.recd [.any, .any, .any], .recd [.any, .any, .any]] args, bs with
  | some [.agg [.c (.int .i64 a1), .c (.int .i64 a2), .c (.int .i64 a3)], .agg [.c (.int .i64 a4), .c (.int .i64 a5), .c (.int .i64 a6)]], [] => some (cycle_rises.f N a1 a2 a3 a4 a5 a6, fun r => .one (.c (.int .i64 r)) [])
  | _, _ => none }
theorem cycle_rises.env (N : Nat) : EnvOK Try.prog (cycle_rises.E N) := ⟨(TyOK.cons ty2_ok (TyOK.cons ty3_ok (TyOK.cons ty23_ok (TyOK.cons ty87_ok TyOK.nil)))), (TabOK.cons (cmp_Compare_int64_.ent_ok N) (TabOK.cons (cmp_Or_int_.ent_ok N) TabOK.nil))⟩
theorem cycle_rises.res_eq (N : Nat) : (cycle_rises.E N).res = Try.f47.results.toList := by kernel_rfl
theorem cycle_rises.spec (N : Nat) (a1 : Int) (a2 : Int) (a3 : Int) (a4 : Int) (a5 : Int) (a6 : Int) (r : Int) (h : cycle_rises.f N a1 a2 a3 a4 a5 a6 = some r) : FnSpec Try.prog 47 [.agg [.c (.int .i64 a1), .c (.int .i64 a2), .c (.int .i64 a3)], .agg [.c (.int .i64 a4), .c (.int .i64 a5), .c (.int .i64 a6)]] [] (.c (.int .i64 r)) ([]) := by
  rw [← cycle_rises.f_eq] at h
  refine (evFun_ok (cycle_rises.env N) Try_mixed Try.func47 (by kernel_rfl : Try.f47.body = some cycle_rises.body) (by kernel_rfl) (cycle_rises.res_eq N) (by kernel_rfl) (by kernel_rfl) (Nat.le_of_ble_eq_true (by kernel_rfl)) (AllCut.of (l := []) (by kernel_rfl) AllCut.nil) h).of fun v bs' h1 => ?_
  unfold cycle_rises.dec at h1; split at h1
  · cases h1; exact ⟨rfl, rfl⟩
  · cases h1
theorem cycle_rises.ent_ok (N : Nat) : TabOK1 Try.prog 47 (cycle_rises.ent N) := by
  intro args bs a enc h
  simp only [cycle_rises.ent] at h
  split at h
  · rename_i hz; have h0 := Option.some.inj h; have h1 := congrArg Prod.fst h0; have h2 := congrArg Prod.snd h0; dsimp only at h1 h2; subst h2; exact FnSpec.of_freeze hz (cycle_rises.spec N _ _ _ _ _ _ a h1)
  · cases h
end Go.Proofs.Ytlofhdoefjmabaa
