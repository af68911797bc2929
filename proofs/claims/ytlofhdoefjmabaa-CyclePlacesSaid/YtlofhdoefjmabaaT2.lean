-- The seat's functions as the evaluator goes through them: typed models and their laws.
import Derived.Test.YtlofhdoefjmabaaProg
import Derived.Test.YtlofhdoefjmabaaEvF
import Derived.KernelRfl
namespace Go.Proofs.Ytlofhdoefjmabaa
open Go.Proofs.Ytlofhdoefjmabaa.Ev
set_option linter.unusedVariables false
open Go
def str0 : ByteArray := ⟨#[0, 1, 2, 2, 3, 3, 3, 3, 4, 4, 4, 4, 4, 4, 4, 4, 5, 5, 5, 5, 5, 5, 5, 5, 5, 5, 5, 5, 5, 5, 5, 5, 6, 6, 6, 6, 6, 6, 6, 6, 6, 6, 6, 6, 6, 6, 6, 6, 6, 6, 6, 6, 6, 6, 6, 6, 6, 6, 6, 6, 6, 6, 6, 6, 7, 7, 7, 7, 7, 7, 7, 7, 7, 7, 7, 7, 7, 7, 7, 7, 7, 7, 7, 7, 7, 7, 7, 7, 7, 7, 7, 7, 7, 7, 7, 7, 7, 7, 7, 7, 7, 7, 7, 7, 7, 7, 7, 7, 7, 7, 7, 7, 7, 7, 7, 7, 7, 7, 7, 7, 7, 7, 7, 7, 7, 7, 7, 7, 8, 8, 8, 8, 8, 8, 8, 8, 8, 8, 8, 8, 8, 8, 8, 8, 8, 8, 8, 8, 8, 8, 8, 8, 8, 8, 8, 8, 8, 8, 8, 8, 8, 8, 8, 8, 8, 8, 8, 8, 8, 8, 8, 8, 8, 8, 8, 8, 8, 8, 8, 8, 8, 8, 8, 8, 8, 8, 8, 8, 8, 8, 8, 8, 8, 8, 8, 8, 8, 8, 8, 8, 8, 8, 8, 8, 8, 8, 8, 8, 8, 8, 8, 8, 8, 8, 8, 8, 8, 8, 8, 8, 8, 8, 8, 8, 8, 8, 8, 8, 8, 8, 8, 8, 8, 8, 8, 8, 8, 8, 8, 8, 8, 8, 8, 8, 8, 8, 8, 8, 8, 8, 8, 8, 8, 8, 8, 8]⟩
noncomputable def ty2 : TI := ⟨.int .i64, 1, 8, [.int .i64 0]⟩
noncomputable def ty3 : TI := ⟨.int .i64, 1, 8, [.int .i64 0]⟩
noncomputable def ty4 : TI := ⟨.bool, 1, 1, [.bool false]⟩
noncomputable def ty5 : TI := ⟨.int .u8, 1, 1, [.int .u8 0]⟩
noncomputable def ty9 : TI := ⟨.str, 1, 16, [.string ByteArray.empty]⟩
noncomputable def ty23 : TI := ⟨.struct [(2, 0), (2, 1), (2, 2)], 3, 24, [.int .i64 0, .int .i64 0, .int .i64 0]⟩
noncomputable def ty24 : TI := ⟨.slice 23, 1, 24, [.slice none 0 0]⟩
noncomputable def ty35 : TI := ⟨.struct [(2, 0), (2, 1), (2, 2), (2, 3)], 4, 32, [.int .i64 0, .int .i64 0, .int .i64 0, .int .i64 0]⟩
noncomputable def ty44 : TI := ⟨.map 23 4, 1, 8, [.map none]⟩
noncomputable def ty46 : TI := ⟨.arr 3 3, 3, 24, [.int .i64 0, .int .i64 0, .int .i64 0]⟩
noncomputable def ty57 : TI := ⟨.arr 3 2, 3, 24, [.int .i64 0, .int .i64 0, .int .i64 0]⟩
noncomputable def ty62 : TI := ⟨.arr 4 2, 4, 32, [.int .i64 0, .int .i64 0, .int .i64 0, .int .i64 0]⟩
noncomputable def ty70 : TI := ⟨.int .u64, 1, 8, [.int .u64 0]⟩
theorem Try_mixed : Try.prog.follows .mixedOrders = true := by kernel_rfl
theorem ty2_ok : TyOK1 Try.prog 2 ty2 := tyok_of (by kernel_rfl) (by kernel_rfl) (by kernel_rfl) (by kernel_rfl) (by kernel_rfl) (by kernel_rfl) (by kernel_rfl) (Try.underlying2) (by kernel_rfl)
theorem ty3_ok : TyOK1 Try.prog 3 ty3 := tyok_of (by kernel_rfl) (by kernel_rfl) (by kernel_rfl) (by kernel_rfl) (by kernel_rfl) (by kernel_rfl) (by kernel_rfl) (Try.underlying3) (by kernel_rfl)
theorem ty4_ok : TyOK1 Try.prog 4 ty4 := tyok_of (by kernel_rfl) (by kernel_rfl) (by kernel_rfl) (by kernel_rfl) (by kernel_rfl) (by kernel_rfl) (by kernel_rfl) (Try.underlying4) (by kernel_rfl)
theorem ty5_ok : TyOK1 Try.prog 5 ty5 := tyok_of (by kernel_rfl) (by kernel_rfl) (by kernel_rfl) (by kernel_rfl) (by kernel_rfl) (by kernel_rfl) (by kernel_rfl) (Try.underlying5) (by kernel_rfl)
theorem ty9_ok : TyOK1 Try.prog 9 ty9 := tyok_of (by kernel_rfl) (by kernel_rfl) (by kernel_rfl) (by kernel_rfl) (by kernel_rfl) (by kernel_rfl) (by kernel_rfl) (Try.underlying9) (by kernel_rfl)
theorem ty23_ok : TyOK1 Try.prog 23 ty23 := tyok_of (by kernel_rfl) (by kernel_rfl) (by kernel_rfl) (by kernel_rfl) (by kernel_rfl) (by kernel_rfl) (by kernel_rfl) (tk_struct Try.underlying23 (by kernel_rfl) (by kernel_rfl)) (by kernel_rfl)
theorem ty24_ok : TyOK1 Try.prog 24 ty24 := tyok_of (by kernel_rfl) (by kernel_rfl) (by kernel_rfl) (by kernel_rfl) (by kernel_rfl) (by kernel_rfl) (by kernel_rfl) (Try.underlying24) (by kernel_rfl)
theorem ty35_ok : TyOK1 Try.prog 35 ty35 := tyok_of (by kernel_rfl) (by kernel_rfl) (by kernel_rfl) (by kernel_rfl) (by kernel_rfl) (by kernel_rfl) (by kernel_rfl) (tk_struct Try.underlying35 (by kernel_rfl) (by kernel_rfl)) (by kernel_rfl)
theorem ty44_ok : TyOK1 Try.prog 44 ty44 := tyok_of (by kernel_rfl) (by kernel_rfl) (by kernel_rfl) (by kernel_rfl) (by kernel_rfl) (by kernel_rfl) (by kernel_rfl) (tk_map Try.underlying44 (by kernel_rfl)) (by kernel_rfl)
theorem ty46_ok : TyOK1 Try.prog 46 ty46 := tyok_of (by kernel_rfl) (by kernel_rfl) (by kernel_rfl) (by kernel_rfl) (by kernel_rfl) (by kernel_rfl) (by kernel_rfl) (Try.underlying46) (by kernel_rfl)
theorem ty57_ok : TyOK1 Try.prog 57 ty57 := tyok_of (by kernel_rfl) (by kernel_rfl) (by kernel_rfl) (by kernel_rfl) (by kernel_rfl) (by kernel_rfl) (by kernel_rfl) (Try.underlying57) (by kernel_rfl)
theorem ty62_ok : TyOK1 Try.prog 62 ty62 := tyok_of (by kernel_rfl) (by kernel_rfl) (by kernel_rfl) (by kernel_rfl) (by kernel_rfl) (by kernel_rfl) (by kernel_rfl) (Try.underlying62) (by kernel_rfl)
theorem ty70_ok : TyOK1 Try.prog 70 ty70 := tyok_of (by kernel_rfl) (by kernel_rfl) (by kernel_rfl) (by kernel_rfl) (by kernel_rfl) (by kernel_rfl) (by kernel_rfl) (Try.underlying70) (by kernel_rfl)
/-! math/bits.Len64: function 51 -/
noncomputable def bits_Len64.f (N : Nat) (a1 : Int) : Option (Int) :=
  bif decide (a1 ≥ 4294967296) then
    bif decide ((Int.fdiv a1 (2 ^ 32)) ≥ 65536) then
      bif decide ((Int.fdiv (Int.fdiv a1 (2 ^ 32)) (2 ^ 16)) ≥ 256) then
        bif (decide (0 ≤ (wu8 (Int.fdiv (Int.fdiv (Int.fdiv a1 (2 ^ 32)) (2 ^ 16)) (2 ^ 8))))) && (decide ((wu8 (Int.fdiv (Int.fdiv (Int.fdiv a1 (2 ^ 32)) (2 ^ 16)) (2 ^ 8))) < (str0.size : Int))) then
          some (wi64 (56 + (wi64 (byteAt str0 ((wu8 (Int.fdiv (Int.fdiv (Int.fdiv a1 (2 ^ 32)) (2 ^ 16)) (2 ^ 8))).toNat)))))
        else none
      else
      bif (decide (0 ≤ (wu8 (Int.fdiv (Int.fdiv a1 (2 ^ 32)) (2 ^ 16))))) && (decide ((wu8 (Int.fdiv (Int.fdiv a1 (2 ^ 32)) (2 ^ 16))) < (str0.size : Int))) then
        some (wi64 (48 + (wi64 (byteAt str0 ((wu8 (Int.fdiv (Int.fdiv a1 (2 ^ 32)) (2 ^ 16))).toNat)))))
      else none
    else
    bif decide ((Int.fdiv a1 (2 ^ 32)) ≥ 256) then
      bif (decide (0 ≤ (wu8 (Int.fdiv (Int.fdiv a1 (2 ^ 32)) (2 ^ 8))))) && (decide ((wu8 (Int.fdiv (Int.fdiv a1 (2 ^ 32)) (2 ^ 8))) < (str0.size : Int))) then
        some (wi64 (40 + (wi64 (byteAt str0 ((wu8 (Int.fdiv (Int.fdiv a1 (2 ^ 32)) (2 ^ 8))).toNat)))))
      else none
    else
    bif (decide (0 ≤ (wu8 (Int.fdiv a1 (2 ^ 32))))) && (decide ((wu8 (Int.fdiv a1 (2 ^ 32))) < (str0.size : Int))) then
      some (wi64 (32 + (wi64 (byteAt str0 ((wu8 (Int.fdiv a1 (2 ^ 32))).toNat)))))
    else none
  else
  bif decide (a1 ≥ 65536) then
    bif decide ((Int.fdiv a1 (2 ^ 16)) ≥ 256) then
      bif (decide (0 ≤ (wu8 (Int.fdiv (Int.fdiv a1 (2 ^ 16)) (2 ^ 8))))) && (decide ((wu8 (Int.fdiv (Int.fdiv a1 (2 ^ 16)) (2 ^ 8))) < (str0.size : Int))) then
        some (wi64 (24 + (wi64 (byteAt str0 ((wu8 (Int.fdiv (Int.fdiv a1 (2 ^ 16)) (2 ^ 8))).toNat)))))
      else none
    else
    bif (decide (0 ≤ (wu8 (Int.fdiv a1 (2 ^ 16))))) && (decide ((wu8 (Int.fdiv a1 (2 ^ 16))) < (str0.size : Int))) then
      some (wi64 (16 + (wi64 (byteAt str0 ((wu8 (Int.fdiv a1 (2 ^ 16))).toNat)))))
    else none
  else
  bif decide (a1 ≥ 256) then
    bif (decide (0 ≤ (wu8 (Int.fdiv a1 (2 ^ 8))))) && (decide ((wu8 (Int.fdiv a1 (2 ^ 8))) < (str0.size : Int))) then
      some (wi64 (8 + (wi64 (byteAt str0 ((wu8 (Int.fdiv a1 (2 ^ 8))).toNat)))))
    else none
  else
  bif (decide (0 ≤ (wu8 a1))) && (decide ((wu8 a1) < (str0.size : Int))) then
    some (wi64 (0 + (wi64 (byteAt str0 ((wu8 a1).toNat)))))
  else none
noncomputable def bits_Len64.body : Code := (Try.f51.body).getD .skip
noncomputable def bits_Len64.ty : List (Nat × TI) := [(3, ty3), (5, ty5), (9, ty9), (70, ty70)]
noncomputable def bits_Len64.E (N : Nat) : Env := { ty := lookN bits_Len64.ty, tab := lookN [], hint := lookN [], cut := lookN [], N := N, res := [.tmp 2], rsh := [.any], nb := 0, ntmps := 25, own := false }
noncomputable def bits_Len64.dec (v : V) (bs : List Blk) : Option (Int) := match v, bs with
  | .c (.int .i64 z0), [] => some z0
  | _, _ => none
set_option maxRecDepth 100000 in
theorem bits_Len64.f_eq (N : Nat) (a1 : Int) :
    evFun (bits_Len64.E N) bits_Len64.body [.c (.int .u64 a1)] [] bits_Len64.dec = bits_Len64.f N a1 := by kernel_rfl
noncomputable def bits_Len64.ent (N : Nat) : Entry := { A := Int, fresh := 0, imm := [true], dec := fun args bs => match freezeL 0 (fun _ => .dead) [.any] args, bs with
  | some [.c (.int .u64 a1)], [] => some (bits_Len64.f N a1, fun r => .one (.c (.int .i64 r)) [])
  | _, _ => none }
theorem bits_Len64.env (N : Nat) : EnvOK Try.prog (bits_Len64.E N) := ⟨(TyOK.cons ty3_ok (TyOK.cons ty5_ok (TyOK.cons ty9_ok (TyOK.cons ty70_ok TyOK.nil)))), TabOK.nil⟩
theorem bits_Len64.res_eq (N : Nat) : (bits_Len64.E N).res = Try.f51.results.toList := by kernel_rfl
theorem bits_Len64.spec (N : Nat) (a1 : Int) (r : Int) (h : bits_Len64.f N a1 = some r) : FnSpec Try.prog 51 [.c (.int .u64 a1)] [] (.c (.int .i64 r)) ([]) := by
  rw [← bits_Len64.f_eq] at h
  refine (evFun_ok (bits_Len64.env N) Try_mixed Try.func51 (by kernel_rfl : Try.f51.body = some bits_Len64.body) (by kernel_rfl) (bits_Len64.res_eq N) (by kernel_rfl) (by kernel_rfl) (Nat.le_of_ble_eq_true (by kernel_rfl)) (AllCut.of (l := []) (by kernel_rfl) AllCut.nil) h).of fun v bs' h1 => ?_
  unfold bits_Len64.dec at h1; split at h1
  · cases h1; exact ⟨rfl, rfl⟩
  · cases h1
theorem bits_Len64.ent_ok (N : Nat) : TabOK1 Try.prog 51 (bits_Len64.ent N) := by
  intro args bs a enc h
  simp only [bits_Len64.ent] at h
  split at h
  · rename_i hz; have h0 := Option.some.inj h; have h1 := congrArg Prod.fst h0; have h2 := congrArg Prod.snd h0; dsimp only at h1 h2; subst h2; exact FnSpec.of_freeze hz (bits_Len64.spec N _ a h1)
  · cases h
/-! parquet/cycle.root: function 40 -/
noncomputable def cycle_root.l4 {R : Type} (N : Nat) : Nat → Int → Int → (Int → Option R) → Option R
  | 0, _, _, _ => none
  | n + 1, x3, x4, kr =>
    bif !(x4 == 0) then
      bif decide ((wi64 (Int.tdiv (wi64 (x4 + (wi64 (Int.tdiv x3 x4)))) 2)) ≥ x4) then
        kr x4
      else
      cycle_root.l4 N n x3 (wi64 (Int.tdiv (wi64 (x4 + (wi64 (Int.tdiv x3 x4)))) 2)) kr
    else none
noncomputable def cycle_root.f (N : Nat) (a1 : Int) : Option (Int) :=
  bif a1 == 0 then
    some 0
  else
  (bits_Len64.f N (wu64 a1)).bind fun r2 =>
  bif decide (0 ≤ (wi64 (Int.tdiv (wi64 (r2 + 1)) 2))) then
    cycle_root.l4 N N a1 (wi64 (1 * 2 ^ (min (wi64 (Int.tdiv (wi64 (r2 + 1)) 2)).toNat 64)))
      (fun y6 =>
        some y6)
  else none
noncomputable def cycle_root.body : Code := (Try.f40.body).getD .skip
noncomputable def cycle_root.ty : List (Nat × TI) := [(2, ty2), (70, ty70)]
noncomputable def cycle_root.h4 : Hint := ⟨[(0, .any), (3, .any)], []⟩
noncomputable def cycle_root.c4 (N : Nat) : Cut := ⟨fun vs H k => match vs, H with
  | [.c (.int .i64 x3), .c (.int .i64 x4)], [] => cycle_root.l4 N N x3 x4 (fun x5 => k (.ret (.c (.int .i64 x5)) []) .nil)
  | _, _ => none⟩
noncomputable def cycle_root.E (N : Nat) : Env := { ty := lookN cycle_root.ty, tab := lookN [(51, bits_Len64.ent N)], hint := lookN [(4, cycle_root.h4)], cut := lookN [(4, cycle_root.c4 N)], N := N, res := [.tmp 2], rsh := [.any], nb := 0, ntmps := 24, own := false }
noncomputable def cycle_root.b4 : Code := inner ((subLoops cycle_root.body).getD 0 .skip)
set_option maxRecDepth 100000 in
theorem cycle_root.l4_eq {R : Type} (N n : Nat) (x3 : Int) (x4 : Int) (k : Ex → St → Option R) :
    evLoop 0 cycle_root.h4 (fun s k => evCode (cycle_root.E N) 395 cycle_root.b4 s k) n [.c (.int .i64 x3), .c (.int .i64 x4)] [] k = cycle_root.l4 N n x3 x4 (fun x5 => k (.ret (.c (.int .i64 x5)) []) .nil) := by
  induction n generalizing x3 x4 with
  | zero => kernel_rfl
  | succ n ih =>
    simp only [cycle_root.l4, ← ih]
    kernel_rfl
noncomputable def cycle_root.dec (v : V) (bs : List Blk) : Option (Int) := match v, bs with
  | .c (.int .i64 z0), [] => some z0
  | _, _ => none
set_option maxRecDepth 100000 in
theorem cycle_root.f_eq (N : Nat) (a1 : Int) :
    evFun (cycle_root.E N) cycle_root.body [.c (.int .i64 a1)] [] cycle_root.dec = cycle_root.f N a1 := by kernel_rfl
noncomputable def cycle_root.ent (N : Nat) : Entry := { A := Int, fresh := 0, imm := [true], dec := fun args bs => match freezeL 0 (fun _ => .dead) [.any] args, bs with
  | some [.c (.int .i64 a1)], [] => some (cycle_root.f N a1, fun r => .one (.c (.int .i64 r)) [])
  | _, _ => none }
theorem cycle_root.env (N : Nat) : EnvOK Try.prog (cycle_root.E N) := ⟨(TyOK.cons ty2_ok (TyOK.cons ty70_ok TyOK.nil)), (TabOK.cons (bits_Len64.ent_ok N) TabOK.nil)⟩
theorem cycle_root.res_eq (N : Nat) : (cycle_root.E N).res = Try.f40.results.toList := by kernel_rfl
theorem cycle_root.k4 (N : Nat) : CutOK Try.prog Try.f40 (cycle_root.E N) (.loop cycle_root.b4) := by
  intro e hd he hh R vs H k r h
  have e1 : (cycle_root.E N).cut (loopKey cycle_root.b4) = some (cycle_root.c4 N) := by kernel_rfl
  have e2 : (cycle_root.E N).hint (loopKey cycle_root.b4) = some cycle_root.h4 := by kernel_rfl
  rw [e1] at he; rw [e2] at hh; cases he; cases hh
  unfold cycle_root.c4 at h; dsimp only at h
  split at h
  · rw [← cycle_root.l4_eq] at h
    exact loop_ok (evCode_ok (cycle_root.env N) Try_mixed (cycle_root.res_eq N) 395 cycle_root.b4 (AllCut.of (l := []) (by kernel_rfl) AllCut.nil)) h
  · cases h
theorem cycle_root.spec (N : Nat) (a1 : Int) (r : Int) (h : cycle_root.f N a1 = some r) : FnSpec Try.prog 40 [.c (.int .i64 a1)] [] (.c (.int .i64 r)) ([]) := by
  rw [← cycle_root.f_eq] at h
  refine (evFun_ok (cycle_root.env N) Try_mixed Try.func40 (by kernel_rfl : Try.f40.body = some cycle_root.body) (by kernel_rfl) (cycle_root.res_eq N) (by kernel_rfl) (by kernel_rfl) (Nat.le_of_ble_eq_true (by kernel_rfl)) (AllCut.of (l := [(.loop (inner ((subLoops cycle_root.body).getD 0 .skip)))]) (by kernel_rfl) (AllCut.cons (cycle_root.k4 N) AllCut.nil)) h).of fun v bs' h1 => ?_
  unfold cycle_root.dec at h1; split at h1
  · cases h1; exact ⟨rfl, rfl⟩
  · cases h1
theorem cycle_root.ent_ok (N : Nat) : TabOK1 Try.prog 40 (cycle_root.ent N) := by
  intro args bs a enc h
  simp only [cycle_root.ent] at h
  split at h
  · rename_i hz; have h0 := Option.some.inj h; have h1 := congrArg Prod.fst h0; have h2 := congrArg Prod.snd h0; dsimp only at h1 h2; subst h2; exact FnSpec.of_freeze hz (cycle_root.spec N _ a h1)
  · cases h
/-! parquet/cycle.size: function 50 -/
noncomputable def cycle_size.f (N : Nat) (a1 : Int) : Option (Int) :=
  some (mx2 a1 (wi64 (0 - a1)))
noncomputable def cycle_size.body : Code := (Try.f50.body).getD .skip
noncomputable def cycle_size.ty : List (Nat × TI) := []
noncomputable def cycle_size.E (N : Nat) : Env := { ty := lookN cycle_size.ty, tab := lookN [], hint := lookN [], cut := lookN [], N := N, res := [.tmp 2], rsh := [.any], nb := 0, ntmps := 7, own := false }
noncomputable def cycle_size.dec (v : V) (bs : List Blk) : Option (Int) := match v, bs with
  | .c (.int .i64 z0), [] => some z0
  | _, _ => none
set_option maxRecDepth 100000 in
theorem cycle_size.f_eq (N : Nat) (a1 : Int) :
    evFun (cycle_size.E N) cycle_size.body [.c (.int .i64 a1)] [] cycle_size.dec = cycle_size.f N a1 := by kernel_rfl
noncomputable def cycle_size.ent (N : Nat) : Entry := { A := Int, fresh := 0, imm := [true], dec := fun args bs => match freezeL 0 (fun _ => .dead) [.any] args, bs with
  | some [.c (.int .i64 a1)], [] => some (cycle_size.f N a1, fun r => .one (.c (.int .i64 r)) [])
  | _, _ => none }
theorem cycle_size.env (N : Nat) : EnvOK Try.prog (cycle_size.E N) := ⟨TyOK.nil, TabOK.nil⟩
theorem cycle_size.res_eq (N : Nat) : (cycle_size.E N).res = Try.f50.results.toList := by kernel_rfl
theorem cycle_size.spec (N : Nat) (a1 : Int) (r : Int) (h : cycle_size.f N a1 = some r) : FnSpec Try.prog 50 [.c (.int .i64 a1)] [] (.c (.int .i64 r)) ([]) := by
  rw [← cycle_size.f_eq] at h
  refine (evFun_ok (cycle_size.env N) Try_mixed Try.func50 (by kernel_rfl : Try.f50.body = some cycle_size.body) (by kernel_rfl) (cycle_size.res_eq N) (by kernel_rfl) (by kernel_rfl) (Nat.le_of_ble_eq_true (by kernel_rfl)) (AllCut.of (l := []) (by kernel_rfl) AllCut.nil) h).of fun v bs' h1 => ?_
  unfold cycle_size.dec at h1; split at h1
  · cases h1; exact ⟨rfl, rfl⟩
  · cases h1
theorem cycle_size.ent_ok (N : Nat) : TabOK1 Try.prog 50 (cycle_size.ent N) := by
  intro args bs a enc h
  simp only [cycle_size.ent] at h
  split at h
  · rename_i hz; have h0 := Option.some.inj h; have h1 := congrArg Prod.fst h0; have h2 := congrArg Prod.snd h0; dsimp only at h1 h2; subst h2; exact FnSpec.of_freeze hz (cycle_size.spec N _ a h1)
  · cases h
/-! parquet/cycle.disc: function 34 -/
noncomputable def cycle_disc.f (N : Nat) (a1 : Int) (a2 : Int) (a3 : Int) : Option (Int) :=
  some (wi64 ((wi64 (a2 * a2)) - (wi64 ((wi64 (4 * a1)) * a3))))
noncomputable def cycle_disc.body : Code := (Try.f34.body).getD .skip
noncomputable def cycle_disc.ty : List (Nat × TI) := [(2, ty2), (23, ty23)]
noncomputable def cycle_disc.E (N : Nat) : Env := { ty := lookN cycle_disc.ty, tab := lookN [], hint := lookN [], cut := lookN [], N := N, res := [.tmp 2], rsh := [.any], nb := 0, ntmps := 15, own := false }
noncomputable def cycle_disc.dec (v : V) (bs : List Blk) : Option (Int) := match v, bs with
  | .c (.int .i64 z0), [] => some z0
  | _, _ => none
set_option maxRecDepth 100000 in
theorem cycle_disc.f_eq (N : Nat) (a1 : Int) (a2 : Int) (a3 : Int) :
    evFun (cycle_disc.E N) cycle_disc.body [.agg [.c (.int .i64 a1), .c (.int .i64 a2), .c (.int .i64 a3)]] [] cycle_disc.dec = cycle_disc.f N a1 a2 a3 := by kernel_rfl
noncomputable def cycle_disc.ent (N : Nat) : Entry := { A := Int, fresh := 0, imm := [true], dec := fun args bs => match freezeL 0 (fun _ => .dead) [.recd [.any, .any, .any]] args, bs with
  | some [.agg [.c (.int .i64 a1), .c (.int .i64 a2), .c (.int .i64 a3)]], [] => some (cycle_disc.f N a1 a2 a3, fun r => .one (.c (.int .i64 r)) [])
  | _, _ => none }
theorem cycle_disc.env (N : Nat) : EnvOK Try.prog (cycle_disc.E N) := ⟨(TyOK.cons ty2_ok (TyOK.cons ty23_ok TyOK.nil)), TabOK.nil⟩
theorem cycle_disc.res_eq (N : Nat) : (cycle_disc.E N).res = Try.f34.results.toList := by kernel_rfl
theorem cycle_disc.spec (N : Nat) (a1 : Int) (a2 : Int) (a3 : Int) (r : Int) (h : cycle_disc.f N a1 a2 a3 = some r) : FnSpec Try.prog 34 [.agg [.c (.int .i64 a1), .c (.int .i64 a2), .c (.int .i64 a3)]] [] (.c (.int .i64 r)) ([]) := by
  rw [← cycle_disc.f_eq] at h
  refine (evFun_ok (cycle_disc.env N) Try_mixed Try.func34 (by kernel_rfl : Try.f34.body = some cycle_disc.body) (by kernel_rfl) (cycle_disc.res_eq N) (by kernel_rfl) (by kernel_rfl) (Nat.le_of_ble_eq_true (by kernel_rfl)) (AllCut.of (l := []) (by kernel_rfl) AllCut.nil) h).of fun v bs' h1 => ?_
  unfold cycle_disc.dec at h1; split at h1
  · cases h1; exact ⟨rfl, rfl⟩
  · cases h1
theorem cycle_disc.ent_ok (N : Nat) : TabOK1 Try.prog 34 (cycle_disc.ent N) := by
  intro args bs a enc h
  simp only [cycle_disc.ent] at h
  split at h
  · rename_i hz; have h0 := Option.some.inj h; have h1 := congrArg Prod.fst h0; have h2 := congrArg Prod.snd h0; dsimp only at h1 h2; subst h2; exact FnSpec.of_freeze hz (cycle_disc.spec N _ _ _ a h1)
  · cases h
/-! parquet/cycle.cross: function 38 -/
noncomputable def cycle_cross.f (N : Nat) (a1 : Int) : Option (Bool) :=
  bif decide (a1 < 1) then
    some false
  else
  bif decide (a1 ≥ 1152921504606846976) then
    some false
  else
  bif decide ((Int.tmod a1 4) > 1) then
    some false
  else
  (cycle_root.f N a1).bind fun r2 =>
  some ((wi64 (r2 * r2)) != a1)
noncomputable def cycle_cross.body : Code := (Try.f38.body).getD .skip
noncomputable def cycle_cross.ty : List (Nat × TI) := []
noncomputable def cycle_cross.E (N : Nat) : Env := { ty := lookN cycle_cross.ty, tab := lookN [(40, cycle_root.ent N)], hint := lookN [], cut := lookN [], N := N, res := [.tmp 2], rsh := [.any], nb := 0, ntmps := 22, own := false }
noncomputable def cycle_cross.dec (v : V) (bs : List Blk) : Option (Bool) := match v, bs with
  | .c (.bool z0), [] => some z0
  | _, _ => none
set_option maxRecDepth 100000 in
theorem cycle_cross.f_eq (N : Nat) (a1 : Int) :
    evFun (cycle_cross.E N) cycle_cross.body [.c (.int .i64 a1)] [] cycle_cross.dec = cycle_cross.f N a1 := by kernel_rfl
noncomputable def cycle_cross.ent (N : Nat) : Entry := { A := Bool, fresh := 0, imm := [true], dec := fun args bs => match freezeL 0 (fun _ => .dead) [.any] args, bs with
  | some [.c (.int .i64 a1)], [] => some (cycle_cross.f N a1, fun r => .one (.c (.bool r)) [])
  | _, _ => none }
theorem cycle_cross.env (N : Nat) : EnvOK Try.prog (cycle_cross.E N) := ⟨TyOK.nil, (TabOK.cons (cycle_root.ent_ok N) TabOK.nil)⟩
theorem cycle_cross.res_eq (N : Nat) : (cycle_cross.E N).res = Try.f38.results.toList := by kernel_rfl
theorem cycle_cross.spec (N : Nat) (a1 : Int) (r : Bool) (h : cycle_cross.f N a1 = some r) : FnSpec Try.prog 38 [.c (.int .i64 a1)] [] (.c (.bool r)) ([]) := by
  rw [← cycle_cross.f_eq] at h
  refine (evFun_ok (cycle_cross.env N) Try_mixed Try.func38 (by kernel_rfl : Try.f38.body = some cycle_cross.body) (by kernel_rfl) (cycle_cross.res_eq N) (by kernel_rfl) (by kernel_rfl) (Nat.le_of_ble_eq_true (by kernel_rfl)) (AllCut.of (l := []) (by kernel_rfl) AllCut.nil) h).of fun v bs' h1 => ?_
  unfold cycle_cross.dec at h1; split at h1
  · cases h1; exact ⟨rfl, rfl⟩
  · cases h1
theorem cycle_cross.ent_ok (N : Nat) : TabOK1 Try.prog 38 (cycle_cross.ent N) := by
  intro args bs a enc h
  simp only [cycle_cross.ent] at h
  split at h
  · rename_i hz; have h0 := Option.some.inj h; have h1 := congrArg Prod.fst h0; have h2 := congrArg Prod.snd h0; dsimp only at h1 h2; subst h2; exact FnSpec.of_freeze hz (cycle_cross.spec N _ a h1)
  · cases h
/-! parquet/cycle.Check: function 17 -/
noncomputable def cycle_Check.f (N : Nat) (a1 : Int) (a2 : Int) (a3 : Int) : Option (Int) :=
  bif decide (a1 < (-1073741824)) then
    some 3
  else
  bif decide (a1 > 1073741824) then
    some 3
  else
  bif decide (a2 < (-1073741824)) then
    some 3
  else
  bif decide (a2 > 1073741824) then
    some 3
  else
  bif decide (a3 < (-1073741824)) then
    some 3
  else
  bif decide (a3 > 1073741824) then
    some 3
  else
  (cycle_disc.f N a1 a2 a3).bind fun r4 =>
  (cycle_cross.f N r4).bind fun r5 =>
  bif !r5 then
    some 80
  else
  some 0
noncomputable def cycle_Check.body : Code := (Try.f17.body).getD .skip
noncomputable def cycle_Check.ty : List (Nat × TI) := [(2, ty2), (23, ty23), (57, ty57)]
noncomputable def cycle_Check.h2 : Hint := ⟨[(1, .box [.any, .any, .any]), (11, .recd [.any, .any, .any]), (12, .any)], [(1, .any)]⟩
noncomputable def cycle_Check.E (N : Nat) : Env := { ty := lookN cycle_Check.ty, tab := lookN [(34, cycle_disc.ent N), (38, cycle_cross.ent N)], hint := lookN [(2, cycle_Check.h2)], cut := lookN [], N := 40, res := [.tmp 2], rsh := [.any], nb := 0, ntmps := 26, own := false }
noncomputable def cycle_Check.dec (v : V) (bs : List Blk) : Option (Int) := match v, bs with
  | .c (.int .i64 z0), [] => some z0
  | _, _ => none
set_option maxRecDepth 100000 in
theorem cycle_Check.f_eq (N : Nat) (a1 : Int) (a2 : Int) (a3 : Int) :
    evFun (cycle_Check.E N) cycle_Check.body [.agg [.c (.int .i64 a1), .c (.int .i64 a2), .c (.int .i64 a3)]] [] cycle_Check.dec = cycle_Check.f N a1 a2 a3 := by kernel_rfl
noncomputable def cycle_Check.ent (N : Nat) : Entry := { A := Int, fresh := 0, imm := [true], dec := fun args bs => match freezeL 0 (fun _ => .dead) [.recd [.any, .any, .any]] args, bs with
  | some [.agg [.c (.int .i64 a1), .c (.int .i64 a2), .c (.int .i64 a3)]], [] => some (cycle_Check.f N a1 a2 a3, fun r => .one (.c (.int .i64 r)) [])
  | _, _ => none }
theorem cycle_Check.env (N : Nat) : EnvOK Try.prog (cycle_Check.E N) := ⟨(TyOK.cons ty2_ok (TyOK.cons ty23_ok (TyOK.cons ty57_ok TyOK.nil))), (TabOK.cons (cycle_disc.ent_ok N) (TabOK.cons (cycle_cross.ent_ok N) TabOK.nil))⟩
theorem cycle_Check.res_eq (N : Nat) : (cycle_Check.E N).res = Try.f17.results.toList := by kernel_rfl
theorem cycle_Check.spec (N : Nat) (a1 : Int) (a2 : Int) (a3 : Int) (r : Int) (h : cycle_Check.f N a1 a2 a3 = some r) : FnSpec Try.prog 17 [.agg [.c (.int .i64 a1), .c (.int .i64 a2), .c (.int .i64 a3)]] [] (.c (.int .i64 r)) ([]) := by
  rw [← cycle_Check.f_eq] at h
  refine (evFun_ok (cycle_Check.env N) Try_mixed Try.func17 (by kernel_rfl : Try.f17.body = some cycle_Check.body) (by kernel_rfl) (cycle_Check.res_eq N) (by kernel_rfl) (by kernel_rfl) (Nat.le_of_ble_eq_true (by kernel_rfl)) (AllCut.of (l := [(.loop (inner ((subLoops cycle_Check.body).getD 0 .skip)))]) (by kernel_rfl) (AllCut.cons (cut_loop (by kernel_rfl)) AllCut.nil)) h).of fun v bs' h1 => ?_
  unfold cycle_Check.dec at h1; split at h1
  · cases h1; exact ⟨rfl, rfl⟩
  · cases h1
theorem cycle_Check.ent_ok (N : Nat) : TabOK1 Try.prog 17 (cycle_Check.ent N) := by
  intro args bs a enc h
  simp only [cycle_Check.ent] at h
  split at h
  · rename_i hz; have h0 := Option.some.inj h; have h1 := congrArg Prod.fst h0; have h2 := congrArg Prod.snd h0; dsimp only at h1 h2; subst h2; exact FnSpec.of_freeze hz (cycle_Check.spec N _ _ _ a h1)
  · cases h
/-! parquet/cycle.reduced: function 41 -/
noncomputable def cycle_reduced.f (N : Nat) (a1 : Int) (a2 : Int) (a3 : Int) (a4 : Int) : Option (Bool) :=
  (cycle_size.f N a1).bind fun r5 =>
  bif decide (a2 ≥ 1) then
    bif decide (a2 ≤ a4) then
      bif decide (a4 < (wi64 (a2 + (wi64 (2 * r5))))) then
        some (decide ((wi64 ((wi64 (2 * r5)) - a2)) ≤ a4))
      else
      some false
    else
    some false
  else
  some false
noncomputable def cycle_reduced.body : Code := (Try.f41.body).getD .skip
noncomputable def cycle_reduced.ty : List (Nat × TI) := [(2, ty2), (23, ty23)]
noncomputable def cycle_reduced.E (N : Nat) : Env := { ty := lookN cycle_reduced.ty, tab := lookN [(50, cycle_size.ent N)], hint := lookN [], cut := lookN [], N := N, res := [.tmp 4], rsh := [.any], nb := 0, ntmps := 35, own := false }
noncomputable def cycle_reduced.dec (v : V) (bs : List Blk) : Option (Bool) := match v, bs with
  | .c (.bool z0), [] => some z0
  | _, _ => none
set_option maxRecDepth 100000 in
theorem cycle_reduced.f_eq (N : Nat) (a1 : Int) (a2 : Int) (a3 : Int) (a4 : Int) :
    evFun (cycle_reduced.E N) cycle_reduced.body [.agg [.c (.int .i64 a1), .c (.int .i64 a2), .c (.int .i64 a3)], .c (.int .i64 a4)] [] cycle_reduced.dec = cycle_reduced.f N a1 a2 a3 a4 := by kernel_rfl
noncomputable def cycle_reduced.ent (N : Nat) : Entry := { A := Bool, fresh := 0, imm := [true, true], dec := fun args bs => match freezeL 0 (fun _ => .dead) [.recd [.any, .any, .any], .any] args, bs with
  | some [.agg [.c (.int .i64 a1), .c (.int .i64 a2), .c (.int .i64 a3)], .c (.int .i64 a4)], [] => some (cycle_reduced.f N a1 a2 a3 a4, fun r => .one (.c (.bool r)) [])
  | _, _ => none }
theorem cycle_reduced.env (N : Nat) : EnvOK Try.prog (cycle_reduced.E N) := ⟨(TyOK.cons ty2_ok (TyOK.cons ty23_ok TyOK.nil)), (TabOK.cons (cycle_size.ent_ok N) TabOK.nil)⟩
theorem cycle_reduced.res_eq (N : Nat) : (cycle_reduced.E N).res = Try.f41.results.toList := by kernel_rfl
theorem cycle_reduced.spec (N : Nat) (a1 : Int) (a2 : Int) (a3 : Int) (a4 : Int) (r : Bool) (h : cycle_reduced.f N a1 a2 a3 a4 = some r) : FnSpec Try.prog 41 [.agg [.c (.int .i64 a1), .c (.int .i64 a2), .c (.int .i64 a3)], .c (.int .i64 a4)] [] (.c (.bool r)) ([]) := by
  rw [← cycle_reduced.f_eq] at h
  refine (evFun_ok (cycle_reduced.env N) Try_mixed Try.func41 (by kernel_rfl : Try.f41.body = some cycle_reduced.body) (by kernel_rfl) (cycle_reduced.res_eq N) (by kernel_rfl) (by kernel_rfl) (Nat.le_of_ble_eq_true (by kernel_rfl)) (AllCut.of (l := []) (by kernel_rfl) AllCut.nil) h).of fun v bs' h1 => ?_
  unfold cycle_reduced.dec at h1; split at h1
  · cases h1; exact ⟨rfl, rfl⟩
  · cases h1
theorem cycle_reduced.ent_ok (N : Nat) : TabOK1 Try.prog 41 (cycle_reduced.ent N) := by
  intro args bs a enc h
  simp only [cycle_reduced.ent] at h
  split at h
  · rename_i hz; have h0 := Option.some.inj h; have h1 := congrArg Prod.fst h0; have h2 := congrArg Prod.snd h0; dsimp only at h1 h2; subst h2; exact FnSpec.of_freeze hz (cycle_reduced.spec N _ _ _ _ a h1)
  · cases h
/-! parquet/cycle.Reduced: function 20 -/
noncomputable def cycle_Reduced.f (N : Nat) (a1 : Int) (a2 : Int) (a3 : Int) : Option (Bool) :=
  (cycle_Check.f N a1 a2 a3).bind fun r4 =>
  bif r4 == 0 then
    (cycle_disc.f N a1 a2 a3).bind fun r5 =>
    (cycle_root.f N r5).bind fun r6 =>
    (cycle_reduced.f N a1 a2 a3 r6).bind fun r7 =>
    some r7
  else
  some false
noncomputable def cycle_Reduced.body : Code := (Try.f20.body).getD .skip
noncomputable def cycle_Reduced.ty : List (Nat × TI) := [(23, ty23)]
noncomputable def cycle_Reduced.E (N : Nat) : Env := { ty := lookN cycle_Reduced.ty, tab := lookN [(17, cycle_Check.ent N), (34, cycle_disc.ent N), (40, cycle_root.ent N), (41, cycle_reduced.ent N)], hint := lookN [], cut := lookN [], N := N, res := [.tmp 2], rsh := [.any], nb := 0, ntmps := 13, own := false }
noncomputable def cycle_Reduced.dec (v : V) (bs : List Blk) : Option (Bool) := match v, bs with
  | .c (.bool z0), [] => some z0
  | _, _ => none
set_option maxRecDepth 100000 in
theorem cycle_Reduced.f_eq (N : Nat) (a1 : Int) (a2 : Int) (a3 : Int) :
    evFun (cycle_Reduced.E N) cycle_Reduced.body [.agg [.c (.int .i64 a1), .c (.int .i64 a2), .c (.int .i64 a3)]] [] cycle_Reduced.dec = cycle_Reduced.f N a1 a2 a3 := by kernel_rfl
noncomputable def cycle_Reduced.ent (N : Nat) : Entry := { A := Bool, fresh := 0, imm := [true], dec := fun args bs => match freezeL 0 (fun _ => .dead) [.recd [.any, .any, .any]] args, bs with
  | some [.agg [.c (.int .i64 a1), .c (.int .i64 a2), .c (.int .i64 a3)]], [] => some (cycle_Reduced.f N a1 a2 a3, fun r => .one (.c (.bool r)) [])
  | _, _ => none }
theorem cycle_Reduced.env (N : Nat) : EnvOK Try.prog (cycle_Reduced.E N) := ⟨(TyOK.cons ty23_ok TyOK.nil), (TabOK.cons (cycle_Check.ent_ok N) (TabOK.cons (cycle_disc.ent_ok N) (TabOK.cons (cycle_root.ent_ok N) (TabOK.cons (cycle_reduced.ent_ok N) TabOK.nil))))⟩
theorem cycle_Reduced.res_eq (N : Nat) : (cycle_Reduced.E N).res = Try.f20.results.toList := by kernel_rfl
theorem cycle_Reduced.spec (N : Nat) (a1 : Int) (a2 : Int) (a3 : Int) (r : Bool) (h : cycle_Reduced.f N a1 a2 a3 = some r) : FnSpec Try.prog 20 [.agg [.c (.int .i64 a1), .c (.int .i64 a2), .c (.int .i64 a3)]] [] (.c (.bool r)) ([]) := by
  rw [← cycle_Reduced.f_eq] at h
  refine (evFun_ok (cycle_Reduced.env N) Try_mixed Try.func20 (by kernel_rfl : Try.f20.body = some cycle_Reduced.body) (by kernel_rfl) (cycle_Reduced.res_eq N) (by kernel_rfl) (by kernel_rfl) (Nat.le_of_ble_eq_true (by kernel_rfl)) (AllCut.of (l := []) (by kernel_rfl) AllCut.nil) h).of fun v bs' h1 => ?_
  unfold cycle_Reduced.dec at h1; split at h1
  · cases h1; exact ⟨rfl, rfl⟩
  · cases h1
theorem cycle_Reduced.ent_ok (N : Nat) : TabOK1 Try.prog 20 (cycle_Reduced.ent N) := by
  intro args bs a enc h
  simp only [cycle_Reduced.ent] at h
  split at h
  · rename_i hz; have h0 := Option.some.inj h; have h1 := congrArg Prod.fst h0; have h2 := congrArg Prod.snd h0; dsimp only at h1 h2; subst h2; exact FnSpec.of_freeze hz (cycle_Reduced.spec N _ _ _ a h1)
  · cases h
/-! parquet/cycle.next: function 39 -/
noncomputable def cycle_next.f (N : Nat) (a1 : Int) (a2 : Int) (a3 : Int) (a4 : Int) (a5 : Int) : Option (Int × Int × Int × Int × Int × Int × Int) :=
  (cycle_size.f N a3).bind fun r6 =>
  bif decide ((wi64 (Int.tdiv (wi64 (2 * r6)) 2)) > a5) then
    bif !((wi64 (2 * r6)) == 0) then
      bif decide ((Int.tmod (wi64 ((wi64 (Int.tdiv (wi64 (2 * r6)) 2)) + a2)) (wi64 (2 * r6))) < 0) then
        bif !((wi64 (4 * a3)) == 0) then
          bif !((wi64 (2 * a3)) == 0) then
            some (a3, wi64 ((wi64 (Int.tdiv (wi64 (2 * r6)) 2)) - (wi64 ((Int.tmod (wi64 ((wi64 (Int.tdiv (wi64 (2 * r6)) 2)) + a2)) (wi64 (2 * r6))) + (wi64 (2 * r6))))), wi64 (Int.tdiv (wi64 ((wi64 ((wi64 ((wi64 (Int.tdiv (wi64 (2 * r6)) 2)) - (wi64 ((Int.tmod (wi64 ((wi64 (Int.tdiv (wi64 (2 * r6)) 2)) + a2)) (wi64 (2 * r6))) + (wi64 (2 * r6)))))) * (wi64 ((wi64 (Int.tdiv (wi64 (2 * r6)) 2)) - (wi64 ((Int.tmod (wi64 ((wi64 (Int.tdiv (wi64 (2 * r6)) 2)) + a2)) (wi64 (2 * r6))) + (wi64 (2 * r6)))))))) - a4)) (wi64 (4 * a3))), 0, (-1), 1, wi64 (Int.tdiv (wi64 (a2 + (wi64 ((wi64 (Int.tdiv (wi64 (2 * r6)) 2)) - (wi64 ((Int.tmod (wi64 ((wi64 (Int.tdiv (wi64 (2 * r6)) 2)) + a2)) (wi64 (2 * r6))) + (wi64 (2 * r6)))))))) (wi64 (2 * a3))))
          else none
        else none
      else
      bif !((wi64 (4 * a3)) == 0) then
        bif !((wi64 (2 * a3)) == 0) then
          some (a3, wi64 ((wi64 (Int.tdiv (wi64 (2 * r6)) 2)) - (Int.tmod (wi64 ((wi64 (Int.tdiv (wi64 (2 * r6)) 2)) + a2)) (wi64 (2 * r6)))), wi64 (Int.tdiv (wi64 ((wi64 ((wi64 ((wi64 (Int.tdiv (wi64 (2 * r6)) 2)) - (Int.tmod (wi64 ((wi64 (Int.tdiv (wi64 (2 * r6)) 2)) + a2)) (wi64 (2 * r6))))) * (wi64 ((wi64 (Int.tdiv (wi64 (2 * r6)) 2)) - (Int.tmod (wi64 ((wi64 (Int.tdiv (wi64 (2 * r6)) 2)) + a2)) (wi64 (2 * r6))))))) - a4)) (wi64 (4 * a3))), 0, (-1), 1, wi64 (Int.tdiv (wi64 (a2 + (wi64 ((wi64 (Int.tdiv (wi64 (2 * r6)) 2)) - (Int.tmod (wi64 ((wi64 (Int.tdiv (wi64 (2 * r6)) 2)) + a2)) (wi64 (2 * r6))))))) (wi64 (2 * a3))))
        else none
      else none
    else none
  else
  bif !((wi64 (2 * r6)) == 0) then
    bif decide ((Int.tmod (wi64 (a5 + a2)) (wi64 (2 * r6))) < 0) then
      bif !((wi64 (4 * a3)) == 0) then
        bif !((wi64 (2 * a3)) == 0) then
          some (a3, wi64 (a5 - (wi64 ((Int.tmod (wi64 (a5 + a2)) (wi64 (2 * r6))) + (wi64 (2 * r6))))), wi64 (Int.tdiv (wi64 ((wi64 ((wi64 (a5 - (wi64 ((Int.tmod (wi64 (a5 + a2)) (wi64 (2 * r6))) + (wi64 (2 * r6)))))) * (wi64 (a5 - (wi64 ((Int.tmod (wi64 (a5 + a2)) (wi64 (2 * r6))) + (wi64 (2 * r6)))))))) - a4)) (wi64 (4 * a3))), 0, (-1), 1, wi64 (Int.tdiv (wi64 (a2 + (wi64 (a5 - (wi64 ((Int.tmod (wi64 (a5 + a2)) (wi64 (2 * r6))) + (wi64 (2 * r6)))))))) (wi64 (2 * a3))))
        else none
      else none
    else
    bif !((wi64 (4 * a3)) == 0) then
      bif !((wi64 (2 * a3)) == 0) then
        some (a3, wi64 (a5 - (Int.tmod (wi64 (a5 + a2)) (wi64 (2 * r6)))), wi64 (Int.tdiv (wi64 ((wi64 ((wi64 (a5 - (Int.tmod (wi64 (a5 + a2)) (wi64 (2 * r6))))) * (wi64 (a5 - (Int.tmod (wi64 (a5 + a2)) (wi64 (2 * r6))))))) - a4)) (wi64 (4 * a3))), 0, (-1), 1, wi64 (Int.tdiv (wi64 (a2 + (wi64 (a5 - (Int.tmod (wi64 (a5 + a2)) (wi64 (2 * r6))))))) (wi64 (2 * a3))))
      else none
    else none
  else none
noncomputable def cycle_next.body : Code := (Try.f39.body).getD .skip
noncomputable def cycle_next.ty : List (Nat × TI) := [(2, ty2), (23, ty23), (35, ty35)]
noncomputable def cycle_next.E (N : Nat) : Env := { ty := lookN cycle_next.ty, tab := lookN [(50, cycle_size.ent N)], hint := lookN [], cut := lookN [], N := N, res := [.cell 6 23, .cell 7 35], rsh := [.recd [.any, .any, .any], .recd [.any, .any, .any, .any]], nb := 0, ntmps := 58, own := false }
noncomputable def cycle_next.dec (v : V) (bs : List Blk) : Option (Int × Int × Int × Int × Int × Int × Int) := match v, bs with
  | .tup [.agg [.c (.int .i64 z0), .c (.int .i64 z1), .c (.int .i64 z2)], .agg [.c (.int .i64 z3), .c (.int .i64 z4), .c (.int .i64 z5), .c (.int .i64 z6)]], [] => some (z0, z1, z2, z3, z4, z5, z6)
  | _, _ => none
set_option maxRecDepth 100000 in
theorem cycle_next.f_eq (N : Nat) (a1 : Int) (a2 : Int) (a3 : Int) (a4 : Int) (a5 : Int) :
    evFun (cycle_next.E N) cycle_next.body [.agg [.c (.int .i64 a1), .c (.int .i64 a2), .c (.int .i64 a3)], .c (.int .i64 a4), .c (.int .i64 a5)] [] cycle_next.dec = cycle_next.f N a1 a2 a3 a4 a5 := by kernel_rfl
noncomputable def cycle_next.ent (N : Nat) : Entry := { A := Int × Int × Int × Int × Int × Int × Int, fresh := 0, imm := [true, true, true], dec := fun args bs => match freezeL 0 (fun _ => .dead) [.recd [.any, .any, .any], .any, .any] args, bs with
  | some [.agg [.c (.int .i64 a1), .c (.int .i64 a2), .c (.int .i64 a3)], .c (.int .i64 a4), .c (.int .i64 a5)], [] => some (cycle_next.f N a1 a2 a3 a4 a5, fun r => .one (.tup [.agg [.c (.int .i64 r.1), .c (.int .i64 r.2.1), .c (.int .i64 r.2.2.1)], .agg [.c (.int .i64 r.2.2.2.1), .c (.int .i64 r.2.2.2.2.1), .c (.int .i64 r.2.2.2.2.2.1), .c (.int .i64 r.2.2.2.2.2.2)]]) [])
  | _, _ => none }
theorem cycle_next.env (N : Nat) : EnvOK Try.prog (cycle_next.E N) := ⟨(TyOK.cons ty2_ok (TyOK.cons ty23_ok (TyOK.cons ty35_ok TyOK.nil))), (TabOK.cons (cycle_size.ent_ok N) TabOK.nil)⟩
theorem cycle_next.res_eq (N : Nat) : (cycle_next.E N).res = Try.f39.results.toList := by kernel_rfl
theorem cycle_next.spec (N : Nat) (a1 : Int) (a2 : Int) (a3 : Int) (a4 : Int) (a5 : Int) (r : Int × Int × Int × Int × Int × Int × Int) (h : cycle_next.f N a1 a2 a3 a4 a5 = some r) : FnSpec Try.prog 39 [.agg [.c (.int .i64 a1), .c (.int .i64 a2), .c (.int .i64 a3)], .c (.int .i64 a4), .c (.int .i64 a5)] [] (.tup [.agg [.c (.int .i64 r.1), .c (.int .i64 r.2.1), .c (.int .i64 r.2.2.1)], .agg [.c (.int .i64 r.2.2.2.1), .c (.int .i64 r.2.2.2.2.1), .c (.int .i64 r.2.2.2.2.2.1), .c (.int .i64 r.2.2.2.2.2.2)]]) ([]) := by
  rw [← cycle_next.f_eq] at h
  refine (evFun_ok (cycle_next.env N) Try_mixed Try.func39 (by kernel_rfl : Try.f39.body = some cycle_next.body) (by kernel_rfl) (cycle_next.res_eq N) (by kernel_rfl) (by kernel_rfl) (Nat.le_of_ble_eq_true (by kernel_rfl)) (AllCut.of (l := []) (by kernel_rfl) AllCut.nil) h).of fun v bs' h1 => ?_
  unfold cycle_next.dec at h1; split at h1
  · cases h1; exact ⟨rfl, rfl⟩
  · cases h1
theorem cycle_next.ent_ok (N : Nat) : TabOK1 Try.prog 39 (cycle_next.ent N) := by
  intro args bs a enc h
  simp only [cycle_next.ent] at h
  split at h
  · rename_i hz; have h0 := Option.some.inj h; have h1 := congrArg Prod.fst h0; have h2 := congrArg Prod.snd h0; dsimp only at h1 h2; subst h2; exact FnSpec.of_freeze hz (cycle_next.spec N _ _ _ _ _ a h1)
  · cases h
/-! parquet/cycle.Next: function 18 -/
noncomputable def cycle_Next.f (N : Nat) (a1 : Int) (a2 : Int) (a3 : Int) : Option (Int × Int × Int × Int × Int × Int × Int × Int) :=
  (cycle_Check.f N a1 a2 a3).bind fun r4 =>
  bif r4 != 0 then
    some (0, 0, 0, 0, 0, 0, 0, r4)
  else
  (cycle_disc.f N a1 a2 a3).bind fun r5 =>
  (cycle_root.f N r5).bind fun r6 =>
  (cycle_next.f N a1 a2 a3 r5 r6).bind fun r7 =>
  some (r7.1, r7.2.1, r7.2.2.1, r7.2.2.2.1, r7.2.2.2.2.1, r7.2.2.2.2.2.1, r7.2.2.2.2.2.2, 0)
noncomputable def cycle_Next.body : Code := (Try.f18.body).getD .skip
noncomputable def cycle_Next.ty : List (Nat × TI) := [(2, ty2), (23, ty23), (35, ty35)]
noncomputable def cycle_Next.E (N : Nat) : Env := { ty := lookN cycle_Next.ty, tab := lookN [(17, cycle_Check.ent N), (34, cycle_disc.ent N), (40, cycle_root.ent N), (39, cycle_next.ent N)], hint := lookN [], cut := lookN [], N := N, res := [.cell 2 23, .cell 3 35, .tmp 4], rsh := [.recd [.any, .any, .any], .recd [.any, .any, .any, .any], .any], nb := 0, ntmps := 28, own := false }
noncomputable def cycle_Next.dec (v : V) (bs : List Blk) : Option (Int × Int × Int × Int × Int × Int × Int × Int) := match v, bs with
  | .tup [.agg [.c (.int .i64 z0), .c (.int .i64 z1), .c (.int .i64 z2)], .agg [.c (.int .i64 z3), .c (.int .i64 z4), .c (.int .i64 z5), .c (.int .i64 z6)], .c (.int .i64 z7)], [] => some (z0, z1, z2, z3, z4, z5, z6, z7)
  | _, _ => none
set_option maxRecDepth 100000 in
theorem cycle_Next.f_eq (N : Nat) (a1 : Int) (a2 : Int) (a3 : Int) :
    evFun (cycle_Next.E N) cycle_Next.body [.agg [.c (.int .i64 a1), .c (.int .i64 a2), .c (.int .i64 a3)]] [] cycle_Next.dec = cycle_Next.f N a1 a2 a3 := by kernel_rfl
noncomputable def cycle_Next.ent (N : Nat) : Entry := { A := Int × Int × Int × Int × Int × Int × Int × Int, fresh := 0, imm := [true], dec := fun args bs => match freezeL 0 (fun _ => .dead) [.recd [.any, .any, .any]] args, bs with
  | some [.agg [.c (.int .i64 a1), .c (.int .i64 a2), .c (.int .i64 a3)]], [] => some (cycle_Next.f N a1 a2 a3, fun r => .one (.tup [.agg [.c (.int .i64 r.1), .c (.int .i64 r.2.1), .c (.int .i64 r.2.2.1)], .agg [.c (.int .i64 r.2.2.2.1), .c (.int .i64 r.2.2.2.2.1), .c (.int .i64 r.2.2.2.2.2.1), .c (.int .i64 r.2.2.2.2.2.2.1)], .c (.int .i64 r.2.2.2.2.2.2.2)]) [])
  | _, _ => none }
theorem cycle_Next.env (N : Nat) : EnvOK Try.prog (cycle_Next.E N) := ⟨(TyOK.cons ty2_ok (TyOK.cons ty23_ok (TyOK.cons ty35_ok TyOK.nil))), (TabOK.cons (cycle_Check.ent_ok N) (TabOK.cons (cycle_disc.ent_ok N) (TabOK.cons (cycle_root.ent_ok N) (TabOK.cons (cycle_next.ent_ok N) TabOK.nil))))⟩
theorem cycle_Next.res_eq (N : Nat) : (cycle_Next.E N).res = Try.f18.results.toList := by kernel_rfl
theorem cycle_Next.spec (N : Nat) (a1 : Int) (a2 : Int) (a3 : Int) (r : Int × Int × Int × Int × Int × Int × Int × Int) (h : cycle_Next.f N a1 a2 a3 = some r) : FnSpec Try.prog 18 [.agg [.c (.int .i64 a1), .c (.int .i64 a2), .c (.int .i64 a3)]] [] (.tup [.agg [.c (.int .i64 r.1), .c (.int .i64 r.2.1), .c (.int .i64 r.2.2.1)], .agg [.c (.int .i64 r.2.2.2.1), .c (.int .i64 r.2.2.2.2.1), .c (.int .i64 r.2.2.2.2.2.1), .c (.int .i64 r.2.2.2.2.2.2.1)], .c (.int .i64 r.2.2.2.2.2.2.2)]) ([]) := by
  rw [← cycle_Next.f_eq] at h
  refine (evFun_ok (cycle_Next.env N) Try_mixed Try.func18 (by kernel_rfl : Try.f18.body = some cycle_Next.body) (by kernel_rfl) (cycle_Next.res_eq N) (by kernel_rfl) (by kernel_rfl) (Nat.le_of_ble_eq_true (by kernel_rfl)) (AllCut.of (l := []) (by kernel_rfl) AllCut.nil) h).of fun v bs' h1 => ?_
  unfold cycle_Next.dec at h1; split at h1
  · cases h1; exact ⟨rfl, rfl⟩
  · cases h1
theorem cycle_Next.ent_ok (N : Nat) : TabOK1 Try.prog 18 (cycle_Next.ent N) := by
  intro args bs a enc h
  simp only [cycle_Next.ent] at h
  split at h
  · rename_i hz; have h0 := Option.some.inj h; have h1 := congrArg Prod.fst h0; have h2 := congrArg Prod.snd h0; dsimp only at h1 h2; subst h2; exact FnSpec.of_freeze hz (cycle_Next.spec N _ _ _ a h1)
  · cases h
/-! parquet/cycle.Reduce: function 19 -/
noncomputable def cycle_Reduce.l7 {R : Type} (N : Nat) : Nat → Int → Int → Int → Int → Int → Int → Int → Int → Int → Int → Int → Int → Int → Int → Int → Int → (Int → Int → Int → Int → Int → Int → Int → Int → Int → Int → Int → Int → Int → Int → Option R) → Option R
  | 0, _, _, _, _, _, _, _, _, _, _, _, _, _, _, _, _, _ => none
  | n + 1, x7, x8, x9, x10, x11, x12, x13, x14, x15, x16, x17, x18, x19, x20, x21, x22, k0 =>
    (cycle_reduced.f N x9 x10 x11 x8).bind fun r23 =>
    bif !r23 then
      (cycle_next.f N x9 x10 x11 x7 x8).bind fun r24 =>
      cycle_Reduce.l7 N n x7 x8 r24.1 r24.2.1 r24.2.2.1 x12 x13 x14 x15 x16 x17 x18 (wi64 ((wi64 (x19 * r24.2.2.2.1)) + (wi64 (x20 * r24.2.2.2.2.2.1)))) (wi64 ((wi64 (x19 * r24.2.2.2.2.1)) + (wi64 (x20 * r24.2.2.2.2.2.2)))) (wi64 ((wi64 (x21 * r24.2.2.2.1)) + (wi64 (x22 * r24.2.2.2.2.2.1)))) (wi64 ((wi64 (x21 * r24.2.2.2.2.1)) + (wi64 (x22 * r24.2.2.2.2.2.2)))) k0
    else
    k0 x9 x10 x11 x12 x13 x14 x15 x16 x17 x18 x19 x20 x21 x22
noncomputable def cycle_Reduce.f (N : Nat) (a1 : Int) (a2 : Int) (a3 : Int) : Option (Int × Int × Int × Int × Int × Int × Int × Int) :=
  (cycle_Check.f N a1 a2 a3).bind fun r4 =>
  bif r4 != 0 then
    some (0, 0, 0, 0, 0, 0, 0, r4)
  else
  (cycle_disc.f N a1 a2 a3).bind fun r5 =>
  (cycle_root.f N r5).bind fun r6 =>
  cycle_Reduce.l7 N N r5 r6 a1 a2 a3 0 0 0 0 0 0 0 1 0 0 1
    (fun y39 y40 y41 y42 y43 y44 y45 y46 y47 y48 y49 y50 y51 y52 =>
      some (y39, y40, y41, y49, y50, y51, y52, 0))
noncomputable def cycle_Reduce.body : Code := (Try.f19.body).getD .skip
noncomputable def cycle_Reduce.ty : List (Nat × TI) := [(2, ty2), (23, ty23), (35, ty35)]
noncomputable def cycle_Reduce.h7 : Hint := ⟨[(1, .box [.any, .any, .any]), (2, .box [.any, .any, .any]), (3, .box [.any, .any, .any, .any]), (6, .any), (7, .any), (8, .box [.any, .any, .any, .any])], [(1, .box [.any, .any, .any]), (2, .box [.any, .any, .any]), (3, .box [.any, .any, .any, .any]), (8, .box [.any, .any, .any, .any])]⟩
noncomputable def cycle_Reduce.c7 (N : Nat) : Cut := ⟨fun vs H k => match vs, H with
  | [.ptr 0 0 3, .ptr 1 0 3, .ptr 2 0 4, .c (.int .i64 x7), .c (.int .i64 x8), .ptr 3 0 4], [.vals [.c (.int .i64 x9), .c (.int .i64 x10), .c (.int .i64 x11)], .vals [.c (.int .i64 x12), .c (.int .i64 x13), .c (.int .i64 x14)], .vals [.c (.int .i64 x15), .c (.int .i64 x16), .c (.int .i64 x17), .c (.int .i64 x18)], .vals [.c (.int .i64 x19), .c (.int .i64 x20), .c (.int .i64 x21), .c (.int .i64 x22)]] => cycle_Reduce.l7 N N x7 x8 x9 x10 x11 x12 x13 x14 x15 x16 x17 x18 x19 x20 x21 x22 (fun x25 x26 x27 x28 x29 x30 x31 x32 x33 x34 x35 x36 x37 x38 => k (.exit 0) ⟨mkT cycle_Reduce.h7.out [.ptr 0 0 3, .ptr 1 0 3, .ptr 2 0 4, .ptr 3 0 4], [.vals [.c (.int .i64 x25), .c (.int .i64 x26), .c (.int .i64 x27)], .vals [.c (.int .i64 x28), .c (.int .i64 x29), .c (.int .i64 x30)], .vals [.c (.int .i64 x31), .c (.int .i64 x32), .c (.int .i64 x33), .c (.int .i64 x34)], .vals [.c (.int .i64 x35), .c (.int .i64 x36), .c (.int .i64 x37), .c (.int .i64 x38)]]⟩)
  | _, _ => none⟩
noncomputable def cycle_Reduce.E (N : Nat) : Env := { ty := lookN cycle_Reduce.ty, tab := lookN [(17, cycle_Check.ent N), (34, cycle_disc.ent N), (40, cycle_root.ent N), (41, cycle_reduced.ent N), (39, cycle_next.ent N)], hint := lookN [(7, cycle_Reduce.h7)], cut := lookN [(7, cycle_Reduce.c7 N)], N := N, res := [.cell 2 23, .cell 3 35, .tmp 4], rsh := [.recd [.any, .any, .any], .recd [.any, .any, .any, .any], .any], nb := 0, ntmps := 82, own := false }
noncomputable def cycle_Reduce.b7 : Code := inner ((subLoops cycle_Reduce.body).getD 0 .skip)
set_option maxRecDepth 100000 in
theorem cycle_Reduce.l7_eq {R : Type} (N n : Nat) (x7 : Int) (x8 : Int) (x9 : Int) (x10 : Int) (x11 : Int) (x12 : Int) (x13 : Int) (x14 : Int) (x15 : Int) (x16 : Int) (x17 : Int) (x18 : Int) (x19 : Int) (x20 : Int) (x21 : Int) (x22 : Int) (k : Ex → St → Option R) :
    evLoop 0 cycle_Reduce.h7 (fun s k => evCode (cycle_Reduce.E N) 392 cycle_Reduce.b7 s k) n [.ptr 0 0 3, .ptr 1 0 3, .ptr 2 0 4, .c (.int .i64 x7), .c (.int .i64 x8), .ptr 3 0 4] [.vals [.c (.int .i64 x9), .c (.int .i64 x10), .c (.int .i64 x11)], .vals [.c (.int .i64 x12), .c (.int .i64 x13), .c (.int .i64 x14)], .vals [.c (.int .i64 x15), .c (.int .i64 x16), .c (.int .i64 x17), .c (.int .i64 x18)], .vals [.c (.int .i64 x19), .c (.int .i64 x20), .c (.int .i64 x21), .c (.int .i64 x22)]] k = cycle_Reduce.l7 N n x7 x8 x9 x10 x11 x12 x13 x14 x15 x16 x17 x18 x19 x20 x21 x22 (fun x25 x26 x27 x28 x29 x30 x31 x32 x33 x34 x35 x36 x37 x38 => k (.exit 0) ⟨mkT cycle_Reduce.h7.out [.ptr 0 0 3, .ptr 1 0 3, .ptr 2 0 4, .ptr 3 0 4], [.vals [.c (.int .i64 x25), .c (.int .i64 x26), .c (.int .i64 x27)], .vals [.c (.int .i64 x28), .c (.int .i64 x29), .c (.int .i64 x30)], .vals [.c (.int .i64 x31), .c (.int .i64 x32), .c (.int .i64 x33), .c (.int .i64 x34)], .vals [.c (.int .i64 x35), .c (.int .i64 x36), .c (.int .i64 x37), .c (.int .i64 x38)]]⟩) := by
  induction n generalizing x7 x8 x9 x10 x11 x12 x13 x14 x15 x16 x17 x18 x19 x20 x21 x22 with
  | zero => kernel_rfl
  | succ n ih =>
    simp only [cycle_Reduce.l7, ← ih]
    kernel_rfl
noncomputable def cycle_Reduce.dec (v : V) (bs : List Blk) : Option (Int × Int × Int × Int × Int × Int × Int × Int) := match v, bs with
  | .tup [.agg [.c (.int .i64 z0), .c (.int .i64 z1), .c (.int .i64 z2)], .agg [.c (.int .i64 z3), .c (.int .i64 z4), .c (.int .i64 z5), .c (.int .i64 z6)], .c (.int .i64 z7)], [] => some (z0, z1, z2, z3, z4, z5, z6, z7)
  | _, _ => none
set_option maxRecDepth 100000 in
theorem cycle_Reduce.f_eq (N : Nat) (a1 : Int) (a2 : Int) (a3 : Int) :
    evFun (cycle_Reduce.E N) cycle_Reduce.body [.agg [.c (.int .i64 a1), .c (.int .i64 a2), .c (.int .i64 a3)]] [] cycle_Reduce.dec = cycle_Reduce.f N a1 a2 a3 := by kernel_rfl
noncomputable def cycle_Reduce.ent (N : Nat) : Entry := { A := Int × Int × Int × Int × Int × Int × Int × Int, fresh := 0, imm := [true], dec := fun args bs => match freezeL 0 (fun _ => .dead) [.recd [.any, .any, .any]] args, bs with
  | some [.agg [.c (.int .i64 a1), .c (.int .i64 a2), .c (.int .i64 a3)]], [] => some (cycle_Reduce.f N a1 a2 a3, fun r => .one (.tup [.agg [.c (.int .i64 r.1), .c (.int .i64 r.2.1), .c (.int .i64 r.2.2.1)], .agg [.c (.int .i64 r.2.2.2.1), .c (.int .i64 r.2.2.2.2.1), .c (.int .i64 r.2.2.2.2.2.1), .c (.int .i64 r.2.2.2.2.2.2.1)], .c (.int .i64 r.2.2.2.2.2.2.2)]) [])
  | _, _ => none }
theorem cycle_Reduce.env (N : Nat) : EnvOK Try.prog (cycle_Reduce.E N) := ⟨(TyOK.cons ty2_ok (TyOK.cons ty23_ok (TyOK.cons ty35_ok TyOK.nil))), (TabOK.cons (cycle_Check.ent_ok N) (TabOK.cons (cycle_disc.ent_ok N) (TabOK.cons (cycle_root.ent_ok N) (TabOK.cons (cycle_reduced.ent_ok N) (TabOK.cons (cycle_next.ent_ok N) TabOK.nil)))))⟩
theorem cycle_Reduce.res_eq (N : Nat) : (cycle_Reduce.E N).res = Try.f19.results.toList := by kernel_rfl
theorem cycle_Reduce.k7 (N : Nat) : CutOK Try.prog Try.f19 (cycle_Reduce.E N) (.loop cycle_Reduce.b7) := by
  intro e hd he hh R vs H k r h
  have e1 : (cycle_Reduce.E N).cut (loopKey cycle_Reduce.b7) = some (cycle_Reduce.c7 N) := by kernel_rfl
  have e2 : (cycle_Reduce.E N).hint (loopKey cycle_Reduce.b7) = some cycle_Reduce.h7 := by kernel_rfl
  rw [e1] at he; rw [e2] at hh; cases he; cases hh
  unfold cycle_Reduce.c7 at h; dsimp only at h
  split at h
  · rw [← cycle_Reduce.l7_eq] at h
    exact loop_ok (evCode_ok (cycle_Reduce.env N) Try_mixed (cycle_Reduce.res_eq N) 392 cycle_Reduce.b7 (AllCut.of (l := []) (by kernel_rfl) AllCut.nil)) h
  · cases h
theorem cycle_Reduce.spec (N : Nat) (a1 : Int) (a2 : Int) (a3 : Int) (r : Int × Int × Int × Int × Int × Int × Int × Int) (h : cycle_Reduce.f N a1 a2 a3 = some r) : FnSpec Try.prog 19 [.agg [.c (.int .i64 a1), .c (.int .i64 a2), .c (.int .i64 a3)]] [] (.tup [.agg [.c (.int .i64 r.1), .c (.int .i64 r.2.1), .c (.int .i64 r.2.2.1)], .agg [.c (.int .i64 r.2.2.2.1), .c (.int .i64 r.2.2.2.2.1), .c (.int .i64 r.2.2.2.2.2.1), .c (.int .i64 r.2.2.2.2.2.2.1)], .c (.int .i64 r.2.2.2.2.2.2.2)]) ([]) := by
  rw [← cycle_Reduce.f_eq] at h
  refine (evFun_ok (cycle_Reduce.env N) Try_mixed Try.func19 (by kernel_rfl : Try.f19.body = some cycle_Reduce.body) (by kernel_rfl) (cycle_Reduce.res_eq N) (by kernel_rfl) (by kernel_rfl) (Nat.le_of_ble_eq_true (by kernel_rfl)) (AllCut.of (l := [(.loop (inner ((subLoops cycle_Reduce.body).getD 0 .skip)))]) (by kernel_rfl) (AllCut.cons (cycle_Reduce.k7 N) AllCut.nil)) h).of fun v bs' h1 => ?_
  unfold cycle_Reduce.dec at h1; split at h1
  · cases h1; exact ⟨rfl, rfl⟩
  · cases h1
theorem cycle_Reduce.ent_ok (N : Nat) : TabOK1 Try.prog 19 (cycle_Reduce.ent N) := by
  intro args bs a enc h
  simp only [cycle_Reduce.ent] at h
  split at h
  · rename_i hz; have h0 := Option.some.inj h; have h1 := congrArg Prod.fst h0; have h2 := congrArg Prod.snd h0; dsimp only at h1 h2; subst h2; exact FnSpec.of_freeze hz (cycle_Reduce.spec N _ _ _ a h1)
  · cases h
/-! parquet/cycle.round: function 33 -/
noncomputable def cycle_round.l1000001 {R : Type} (N : Nat) : Nat → Int → Int → Int → Int → Int → List Int → Int → Int → Int → (Bool → List Int → Option R) → Option R
  | 0, _, _, _, _, _, _, _, _, _, _ => none
  | n + 1, x4, x5, x6, x7, x8, x9, x10, x11, x12, kr =>
    bif (x9.length / 3 : Int) == 4096 then
      kr true x9
    else
    bif roomy ((x9.length + 3) / 3) 24 then
      (cycle_next.f N x10 x11 x12 x4 x5).bind fun r15 =>
      bif !((r15.1 == x6) && ((r15.2.1 == x7) && (r15.2.2.1 == x8))) then
        cycle_round.l1000001 N n x4 x5 x6 x7 x8 (x9 ++ [x10, x11, x12]) r15.1 r15.2.1 r15.2.2.1 kr
      else
      kr false (x9 ++ [x10, x11, x12])
    else none
noncomputable def cycle_round.s1000001 {R : Type} (N : Nat) (x16 : Int) (x17 : Int) (x18 : Int) (x19 : List Int) (kr : (Bool → List Int → Option R)) : Option R :=
  (cycle_disc.f N x16 x17 x18).bind fun r20 =>
  (cycle_root.f N r20).bind fun r21 =>
  bif (x19.length / 3 : Int) == 4096 then
    kr true x19
  else
  bif roomy ((x19.length + 3) / 3) 24 then
    (cycle_next.f N x16 x17 x18 r20 r21).bind fun r22 =>
    bif !((r22.1 == x16) && ((r22.2.1 == x17) && (r22.2.2.1 == x18))) then
      cycle_round.l1000001 N N r20 r21 x16 x17 x18 (x19 ++ [x16, x17, x18]) r22.1 r22.2.1 r22.2.2.1 kr
    else
    kr false (x19 ++ [x16, x17, x18])
  else none
noncomputable def cycle_round.f (N : Nat) (a1 : Int) (a2 : Int) (a3 : Int) : Option (List Int × Bool) :=
  cycle_round.s1000001 N a1 a2 a3 []
    (fun y23 y24 =>
      some (y24, y23))
noncomputable def cycle_round.body : Code := (Try.f33.body).getD .skip
noncomputable def cycle_round.ty : List (Nat × TI) := [(2, ty2), (23, ty23), (24, ty24)]
noncomputable def cycle_round.h1000001 : Hint := ⟨[(1, .box [.any, .any, .any]), (2, .row .i64 3), (4, .any), (5, .any), (6, .any)], [(2, .any), (3, .any)]⟩
noncomputable def cycle_round.c1000001 (N : Nat) : Cut := ⟨fun vs H k => match vs, H with
  | [.ptr 0 0 3, .sw 1 3, .poison, .poison, .poison], [.vals [.c (.int .i64 x16), .c (.int .i64 x17), .c (.int .i64 x18)], .ints .i64 x19] => cycle_round.s1000001 N x16 x17 x18 x19 (fun x13 x14 => k (.ret (.tup [.sw 0 3, .c (.bool x13)]) [.ints .i64 x14]) .nil)
  | _, _ => none⟩
noncomputable def cycle_round.E (N : Nat) : Env := { ty := lookN cycle_round.ty, tab := lookN [(34, cycle_disc.ent N), (40, cycle_root.ent N), (39, cycle_next.ent N)], hint := lookN [(1000001, cycle_round.h1000001)], cut := lookN [(1000001, cycle_round.c1000001 N)], N := N, res := [.tmp 2, .tmp 3], rsh := [.row .i64 3, .any], nb := 0, ntmps := 31, own := true }
noncomputable def cycle_round.b1000001 : Code := inner ((subLoops cycle_round.body).getD 0 .skip)
noncomputable def cycle_round.r1000001 : Code := (findLabel cycle_round.b1000001 0).getD .skip
set_option maxRecDepth 100000 in
theorem cycle_round.l1000001_eq {R : Type} (N n : Nat) (x4 : Int) (x5 : Int) (x6 : Int) (x7 : Int) (x8 : Int) (x9 : List Int) (x10 : Int) (x11 : Int) (x12 : Int) (k : Ex → St → Option R) :
    evScope 0 cycle_round.h1000001 (fun c s k => evCode (cycle_round.E N) 398 c s k) cycle_round.b1000001 n cycle_round.r1000001 [.ptr 0 0 3, .sw 1 3, .c (.int .i64 x4), .c (.int .i64 x5), .ptr 2 0 3] [.vals [.c (.int .i64 x6), .c (.int .i64 x7), .c (.int .i64 x8)], .ints .i64 x9, .vals [.c (.int .i64 x10), .c (.int .i64 x11), .c (.int .i64 x12)]] k = cycle_round.l1000001 N n x4 x5 x6 x7 x8 x9 x10 x11 x12 (fun x13 x14 => k (.ret (.tup [.sw 0 3, .c (.bool x13)]) [.ints .i64 x14]) .nil) := by
  induction n generalizing x4 x5 x6 x7 x8 x9 x10 x11 x12 with
  | zero => kernel_rfl
  | succ n ih =>
    simp only [cycle_round.l1000001, ← ih]
    kernel_rfl
set_option maxRecDepth 100000 in
theorem cycle_round.s1000001_eq {R : Type} (N : Nat) (x16 : Int) (x17 : Int) (x18 : Int) (x19 : List Int) (k : Ex → St → Option R) :
    evScope 0 cycle_round.h1000001 (fun c s k => evCode (cycle_round.E N) 398 c s k) cycle_round.b1000001 (N + 1) cycle_round.b1000001 [.ptr 0 0 3, .sw 1 3, .poison, .poison, .poison] [.vals [.c (.int .i64 x16), .c (.int .i64 x17), .c (.int .i64 x18)], .ints .i64 x19] k = cycle_round.s1000001 N x16 x17 x18 x19 (fun x13 x14 => k (.ret (.tup [.sw 0 3, .c (.bool x13)]) [.ints .i64 x14]) .nil) := by
  simp only [cycle_round.s1000001, ← cycle_round.l1000001_eq]
  kernel_rfl
noncomputable def cycle_round.dec (v : V) (bs : List Blk) : Option (List Int × Bool) := match v, bs with
  | .tup [.sw 0 3, .c (.bool z1)], [.ints .i64 z0] => some (z0, z1)
  | _, _ => none
set_option maxRecDepth 100000 in
theorem cycle_round.f_eq (N : Nat) (a1 : Int) (a2 : Int) (a3 : Int) :
    evFun (cycle_round.E N) cycle_round.body [.agg [.c (.int .i64 a1), .c (.int .i64 a2), .c (.int .i64 a3)]] [] cycle_round.dec = cycle_round.f N a1 a2 a3 := by kernel_rfl
noncomputable def cycle_round.ent (N : Nat) : Entry := { A := List Int × Bool, fresh := 1, imm := [true], dec := fun args bs => match freezeL 0 (fun _ => .dead) [.recd [.any, .any, .any]] args, bs with
  | some [.agg [.c (.int .i64 a1), .c (.int .i64 a2), .c (.int .i64 a3)]], [] => some (cycle_round.f N a1 a2 a3, fun r => .one (.tup [.sw 0 3, .c (.bool r.2)]) [.ints .i64 r.1])
  | _, _ => none }
theorem cycle_round.env (N : Nat) : EnvOK Try.prog (cycle_round.E N) := ⟨(TyOK.cons ty2_ok (TyOK.cons ty23_ok (TyOK.cons ty24_ok TyOK.nil))), (TabOK.cons (cycle_disc.ent_ok N) (TabOK.cons (cycle_root.ent_ok N) (TabOK.cons (cycle_next.ent_ok N) TabOK.nil)))⟩
theorem cycle_round.res_eq (N : Nat) : (cycle_round.E N).res = Try.f33.results.toList := by kernel_rfl
theorem cycle_round.k1000001 (N : Nat) : CutOK Try.prog Try.f33 (cycle_round.E N) (.scope cycle_round.b1000001) := by
  intro e hd he hh R vs H k r h
  have e1 : (cycle_round.E N).cut (1000000 + loopKey cycle_round.b1000001) = some (cycle_round.c1000001 N) := by kernel_rfl
  have e2 : (cycle_round.E N).hint (1000000 + loopKey cycle_round.b1000001) = some cycle_round.h1000001 := by kernel_rfl
  rw [e1] at he; rw [e2] at hh; cases he; cases hh
  unfold cycle_round.c1000001 at h; dsimp only at h
  split at h
  · rw [← cycle_round.s1000001_eq] at h
    exact scope_ok (cycle_round.env N) Try_mixed (cycle_round.res_eq N) (AllCut.of (l := []) (by kernel_rfl) AllCut.nil) h
  · cases h
theorem cycle_round.spec (N : Nat) (a1 : Int) (a2 : Int) (a3 : Int) (r : List Int × Bool) (h : cycle_round.f N a1 a2 a3 = some r) : FnSpec Try.prog 33 [.agg [.c (.int .i64 a1), .c (.int .i64 a2), .c (.int .i64 a3)]] [] (.tup [.sw 0 3, .c (.bool r.2)]) ([.ints .i64 r.1]) := by
  rw [← cycle_round.f_eq] at h
  refine (evFun_ok (cycle_round.env N) Try_mixed Try.func33 (by kernel_rfl : Try.f33.body = some cycle_round.body) (by kernel_rfl) (cycle_round.res_eq N) (by kernel_rfl) (by kernel_rfl) (Nat.le_of_ble_eq_true (by kernel_rfl)) (AllCut.of (l := [(.scope (inner ((subLoops cycle_round.body).getD 0 .skip)))]) (by kernel_rfl) (AllCut.cons (cycle_round.k1000001 N) AllCut.nil)) h).of fun v bs' h1 => ?_
  unfold cycle_round.dec at h1; split at h1
  · cases h1; exact ⟨rfl, rfl⟩
  · cases h1
theorem cycle_round.ent_ok (N : Nat) : TabOK1 Try.prog 33 (cycle_round.ent N) := by
  intro args bs a enc h
  simp only [cycle_round.ent] at h
  split at h
  · rename_i hz; have h0 := Option.some.inj h; have h1 := congrArg Prod.fst h0; have h2 := congrArg Prod.snd h0; dsimp only at h1 h2; subst h2; exact FnSpec.of_freeze hz (cycle_round.spec N _ _ _ a h1)
  · cases h
/-! parquet/cycle.Cycle: function 10 -/
noncomputable def cycle_Cycle.f (N : Nat) (a1 : Int) (a2 : Int) (a3 : Int) : Option (List Int × Int) :=
  (cycle_Reduce.f N a1 a2 a3).bind fun r4 =>
  bif r4.2.2.2.2.2.2.2 != 0 then
    some ([], r4.2.2.2.2.2.2.2)
  else
  (cycle_round.f N r4.1 r4.2.1 r4.2.2.1).bind fun r5 =>
  bif r5.2 then
    some ([], 9)
  else
  some (r5.1, 0)
noncomputable def cycle_Cycle.body : Code := (Try.f10.body).getD .skip
noncomputable def cycle_Cycle.ty : List (Nat × TI) := [(23, ty23), (35, ty35)]
noncomputable def cycle_Cycle.E (N : Nat) : Env := { ty := lookN cycle_Cycle.ty, tab := lookN [(19, cycle_Reduce.ent N), (33, cycle_round.ent N)], hint := lookN [], cut := lookN [], N := N, res := [.tmp 2, .tmp 3], rsh := [.row .i64 3, .any], nb := 0, ntmps := 25, own := true }
noncomputable def cycle_Cycle.dec (v : V) (bs : List Blk) : Option (List Int × Int) := match v, bs with
  | .tup [.sw 0 3, .c (.int .i64 z1)], [.ints .i64 z0] => some (z0, z1)
  | _, _ => none
set_option maxRecDepth 100000 in
theorem cycle_Cycle.f_eq (N : Nat) (a1 : Int) (a2 : Int) (a3 : Int) :
    evFun (cycle_Cycle.E N) cycle_Cycle.body [.agg [.c (.int .i64 a1), .c (.int .i64 a2), .c (.int .i64 a3)]] [] cycle_Cycle.dec = cycle_Cycle.f N a1 a2 a3 := by kernel_rfl
noncomputable def cycle_Cycle.ent (N : Nat) : Entry := { A := List Int × Int, fresh := 1, imm := [true], dec := fun args bs => match freezeL 0 (fun _ => .dead) [.recd [.any, .any, .any]] args, bs with
  | some [.agg [.c (.int .i64 a1), .c (.int .i64 a2), .c (.int .i64 a3)]], [] => some (cycle_Cycle.f N a1 a2 a3, fun r => .one (.tup [.sw 0 3, .c (.int .i64 r.2)]) [.ints .i64 r.1])
  | _, _ => none }
theorem cycle_Cycle.env (N : Nat) : EnvOK Try.prog (cycle_Cycle.E N) := ⟨(TyOK.cons ty23_ok (TyOK.cons ty35_ok TyOK.nil)), (TabOK.cons (cycle_Reduce.ent_ok N) (TabOK.cons (cycle_round.ent_ok N) TabOK.nil))⟩
theorem cycle_Cycle.res_eq (N : Nat) : (cycle_Cycle.E N).res = Try.f10.results.toList := by kernel_rfl
theorem cycle_Cycle.spec (N : Nat) (a1 : Int) (a2 : Int) (a3 : Int) (r : List Int × Int) (h : cycle_Cycle.f N a1 a2 a3 = some r) : FnSpec Try.prog 10 [.agg [.c (.int .i64 a1), .c (.int .i64 a2), .c (.int .i64 a3)]] [] (.tup [.sw 0 3, .c (.int .i64 r.2)]) ([.ints .i64 r.1]) := by
  rw [← cycle_Cycle.f_eq] at h
  refine (evFun_ok (cycle_Cycle.env N) Try_mixed Try.func10 (by kernel_rfl : Try.f10.body = some cycle_Cycle.body) (by kernel_rfl) (cycle_Cycle.res_eq N) (by kernel_rfl) (by kernel_rfl) (Nat.le_of_ble_eq_true (by kernel_rfl)) (AllCut.of (l := []) (by kernel_rfl) AllCut.nil) h).of fun v bs' h1 => ?_
  unfold cycle_Cycle.dec at h1; split at h1
  · cases h1; exact ⟨rfl, rfl⟩
  · cases h1
theorem cycle_Cycle.ent_ok (N : Nat) : TabOK1 Try.prog 10 (cycle_Cycle.ent N) := by
  intro args bs a enc h
  simp only [cycle_Cycle.ent] at h
  split at h
  · rename_i hz; have h0 := Option.some.inj h; have h1 := congrArg Prod.fst h0; have h2 := congrArg Prod.snd h0; dsimp only at h1 h2; subst h2; exact FnSpec.of_freeze hz (cycle_Cycle.spec N _ _ _ a h1)
  · cases h
/-! slices.Index[[]parquet/api.Binary,parquet/api.Binary]: function 49 -/
noncomputable def slices_Index___parquet_api_Binary_parquet_api_Binary_.l2 {R : Type} (N : Nat) : Nat → List Int → Int → Int → Int → Int → Int → (Unit → Option R) → (Int → Option R) → Option R
  | 0, _, _, _, _, _, _, _, _ => none
  | n + 1, x5, x6, x7, x8, x9, x10, k0, kr =>
    bif decide (x7 < x6) then
      bif (decide (0 ≤ x7)) && (decide (x7 < (x5.length / 3 : Int))) then
        bif (x8 == (x5.getD (x7.toNat * 3) 0)) && ((x9 == (x5.getD ((x7.toNat * 3) + 1) 0)) && (x10 == (x5.getD ((x7.toNat * 3) + 2) 0))) then
          kr x7
        else
        slices_Index___parquet_api_Binary_parquet_api_Binary_.l2 N n x5 x6 (wi64 (x7 + 1)) x8 x9 x10 k0 kr
      else none
    else
    k0 ()
noncomputable def slices_Index___parquet_api_Binary_parquet_api_Binary_.f (N : Nat) (a1 : List Int) (a2 : Int) (a3 : Int) (a4 : Int) : Option (Int) :=
  slices_Index___parquet_api_Binary_parquet_api_Binary_.l2 N N a1 (a1.length / 3 : Int) 0 a2 a3 a4
    (fun (_ : Unit) =>
      some (-1))
    (fun y12 =>
      some y12)
noncomputable def slices_Index___parquet_api_Binary_parquet_api_Binary_.body : Code := (Try.f49.body).getD .skip
noncomputable def slices_Index___parquet_api_Binary_parquet_api_Binary_.ty : List (Nat × TI) := [(2, ty2), (23, ty23), (24, ty24)]
noncomputable def slices_Index___parquet_api_Binary_parquet_api_Binary_.h2 : Hint := ⟨[(0, .il .i64 3), (3, .box [.any, .any, .any]), (7, .any), (8, .any)], []⟩
noncomputable def slices_Index___parquet_api_Binary_parquet_api_Binary_.c2 (N : Nat) : Cut := ⟨fun vs H k => match vs, H with
  | [.il .i64 3 x5, .ptr 0 0 3, .c (.int .i64 x6), .c (.int .i64 x7)], [.vals [.c (.int .i64 x8), .c (.int .i64 x9), .c (.int .i64 x10)]] => slices_Index___parquet_api_Binary_parquet_api_Binary_.l2 N N x5 x6 x7 x8 x9 x10 (fun (_ : Unit) => k (.exit 0) ⟨mkT slices_Index___parquet_api_Binary_parquet_api_Binary_.h2.out [], []⟩) (fun x11 => k (.ret (.c (.int .i64 x11)) []) .nil)
  | _, _ => none⟩
noncomputable def slices_Index___parquet_api_Binary_parquet_api_Binary_.E (N : Nat) : Env := { ty := lookN slices_Index___parquet_api_Binary_parquet_api_Binary_.ty, tab := lookN [], hint := lookN [(2, slices_Index___parquet_api_Binary_parquet_api_Binary_.h2)], cut := lookN [(2, slices_Index___parquet_api_Binary_parquet_api_Binary_.c2 N)], N := N, res := [.tmp 4], rsh := [.any], nb := 0, ntmps := 19, own := false }
noncomputable def slices_Index___parquet_api_Binary_parquet_api_Binary_.b2 : Code := inner ((subLoops slices_Index___parquet_api_Binary_parquet_api_Binary_.body).getD 0 .skip)
set_option maxRecDepth 100000 in
theorem slices_Index___parquet_api_Binary_parquet_api_Binary_.l2_eq {R : Type} (N n : Nat) (x5 : List Int) (x6 : Int) (x7 : Int) (x8 : Int) (x9 : Int) (x10 : Int) (k : Ex → St → Option R) :
    evLoop 0 slices_Index___parquet_api_Binary_parquet_api_Binary_.h2 (fun s k => evCode (slices_Index___parquet_api_Binary_parquet_api_Binary_.E N) 395 slices_Index___parquet_api_Binary_parquet_api_Binary_.b2 s k) n [.il .i64 3 x5, .ptr 0 0 3, .c (.int .i64 x6), .c (.int .i64 x7)] [.vals [.c (.int .i64 x8), .c (.int .i64 x9), .c (.int .i64 x10)]] k = slices_Index___parquet_api_Binary_parquet_api_Binary_.l2 N n x5 x6 x7 x8 x9 x10 (fun (_ : Unit) => k (.exit 0) ⟨mkT slices_Index___parquet_api_Binary_parquet_api_Binary_.h2.out [], []⟩) (fun x11 => k (.ret (.c (.int .i64 x11)) []) .nil) := by
  induction n generalizing x5 x6 x7 x8 x9 x10 with
  | zero => kernel_rfl
  | succ n ih =>
    simp only [slices_Index___parquet_api_Binary_parquet_api_Binary_.l2, ← ih]
    kernel_rfl
noncomputable def slices_Index___parquet_api_Binary_parquet_api_Binary_.dec (v : V) (bs : List Blk) : Option (Int) := match v, bs with
  | .c (.int .i64 z0), [] => some z0
  | _, _ => none
set_option maxRecDepth 100000 in
theorem slices_Index___parquet_api_Binary_parquet_api_Binary_.f_eq (N : Nat) (a1 : List Int) (a2 : Int) (a3 : Int) (a4 : Int) :
    evFun (slices_Index___parquet_api_Binary_parquet_api_Binary_.E N) slices_Index___parquet_api_Binary_parquet_api_Binary_.body [.il .i64 3 a1, .agg [.c (.int .i64 a2), .c (.int .i64 a3), .c (.int .i64 a4)]] [] slices_Index___parquet_api_Binary_parquet_api_Binary_.dec = slices_Index___parquet_api_Binary_parquet_api_Binary_.f N a1 a2 a3 a4 := by kernel_rfl
noncomputable def slices_Index___parquet_api_Binary_parquet_api_Binary_.ent (N : Nat) : Entry := { A := Int, fresh := 0, imm := [true, true], dec := fun args bs => match freezeL 0 (fun _ => .dead) [.il .i64 3, .recd [.any, .any, .any]] args, bs with
  | some [.il .i64 3 a1, .agg [.c (.int .i64 a2), .c (.int .i64 a3), .c (.int .i64 a4)]], [] => some (slices_Index___parquet_api_Binary_parquet_api_Binary_.f N a1 a2 a3 a4, fun r => .one (.c (.int .i64 r)) [])
  | _, _ => none }
theorem slices_Index___parquet_api_Binary_parquet_api_Binary_.env (N : Nat) : EnvOK Try.prog (slices_Index___parquet_api_Binary_parquet_api_Binary_.E N) := ⟨(TyOK.cons ty2_ok (TyOK.cons ty23_ok (TyOK.cons ty24_ok TyOK.nil))), TabOK.nil⟩
theorem slices_Index___parquet_api_Binary_parquet_api_Binary_.res_eq (N : Nat) : (slices_Index___parquet_api_Binary_parquet_api_Binary_.E N).res = Try.f49.results.toList := by kernel_rfl
theorem slices_Index___parquet_api_Binary_parquet_api_Binary_.k2 (N : Nat) : CutOK Try.prog Try.f49 (slices_Index___parquet_api_Binary_parquet_api_Binary_.E N) (.loop slices_Index___parquet_api_Binary_parquet_api_Binary_.b2) := by
  intro e hd he hh R vs H k r h
  have e1 : (slices_Index___parquet_api_Binary_parquet_api_Binary_.E N).cut (loopKey slices_Index___parquet_api_Binary_parquet_api_Binary_.b2) = some (slices_Index___parquet_api_Binary_parquet_api_Binary_.c2 N) := by kernel_rfl
  have e2 : (slices_Index___parquet_api_Binary_parquet_api_Binary_.E N).hint (loopKey slices_Index___parquet_api_Binary_parquet_api_Binary_.b2) = some slices_Index___parquet_api_Binary_parquet_api_Binary_.h2 := by kernel_rfl
  rw [e1] at he; rw [e2] at hh; cases he; cases hh
  unfold slices_Index___parquet_api_Binary_parquet_api_Binary_.c2 at h; dsimp only at h
  split at h
  · rw [← slices_Index___parquet_api_Binary_parquet_api_Binary_.l2_eq] at h
    exact loop_ok (evCode_ok (slices_Index___parquet_api_Binary_parquet_api_Binary_.env N) Try_mixed (slices_Index___parquet_api_Binary_parquet_api_Binary_.res_eq N) 395 slices_Index___parquet_api_Binary_parquet_api_Binary_.b2 (AllCut.of (l := []) (by kernel_rfl) AllCut.nil)) h
  · cases h
theorem slices_Index___parquet_api_Binary_parquet_api_Binary_.spec (N : Nat) (a1 : List Int) (a2 : Int) (a3 : Int) (a4 : Int) (r : Int) (h : slices_Index___parquet_api_Binary_parquet_api_Binary_.f N a1 a2 a3 a4 = some r) : FnSpec Try.prog 49 [.il .i64 3 a1, .agg [.c (.int .i64 a2), .c (.int .i64 a3), .c (.int .i64 a4)]] [] (.c (.int .i64 r)) ([]) := by
  rw [← slices_Index___parquet_api_Binary_parquet_api_Binary_.f_eq] at h
  refine (evFun_ok (slices_Index___parquet_api_Binary_parquet_api_Binary_.env N) Try_mixed Try.func49 (by kernel_rfl : Try.f49.body = some slices_Index___parquet_api_Binary_parquet_api_Binary_.body) (by kernel_rfl) (slices_Index___parquet_api_Binary_parquet_api_Binary_.res_eq N) (by kernel_rfl) (by kernel_rfl) (Nat.le_of_ble_eq_true (by kernel_rfl)) (AllCut.of (l := [(.loop (inner ((subLoops slices_Index___parquet_api_Binary_parquet_api_Binary_.body).getD 0 .skip)))]) (by kernel_rfl) (AllCut.cons (slices_Index___parquet_api_Binary_parquet_api_Binary_.k2 N) AllCut.nil)) h).of fun v bs' h1 => ?_
  unfold slices_Index___parquet_api_Binary_parquet_api_Binary_.dec at h1; split at h1
  · cases h1; exact ⟨rfl, rfl⟩
  · cases h1
theorem slices_Index___parquet_api_Binary_parquet_api_Binary_.ent_ok (N : Nat) : TabOK1 Try.prog 49 (slices_Index___parquet_api_Binary_parquet_api_Binary_.ent N) := by
  intro args bs a enc h
  simp only [slices_Index___parquet_api_Binary_parquet_api_Binary_.ent] at h
  split at h
  · rename_i hz; have h0 := Option.some.inj h; have h1 := congrArg Prod.fst h0; have h2 := congrArg Prod.snd h0; dsimp only at h1 h2; subst h2; exact FnSpec.of_freeze hz (slices_Index___parquet_api_Binary_parquet_api_Binary_.spec N _ _ _ _ a h1)
  · cases h
/-! slices.Contains[[]parquet/api.Binary,parquet/api.Binary]: function 35 -/
noncomputable def slices_Contains___parquet_api_Binary_parquet_api_Binary_.f (N : Nat) (a1 : List Int) (a2 : Int) (a3 : Int) (a4 : Int) : Option (Bool) :=
  (slices_Index___parquet_api_Binary_parquet_api_Binary_.f N a1 a2 a3 a4).bind fun r5 =>
  some (decide (r5 ≥ 0))
noncomputable def slices_Contains___parquet_api_Binary_parquet_api_Binary_.body : Code := (Try.f35.body).getD .skip
noncomputable def slices_Contains___parquet_api_Binary_parquet_api_Binary_.ty : List (Nat × TI) := [(23, ty23)]
noncomputable def slices_Contains___parquet_api_Binary_parquet_api_Binary_.E (N : Nat) : Env := { ty := lookN slices_Contains___parquet_api_Binary_parquet_api_Binary_.ty, tab := lookN [(49, slices_Index___parquet_api_Binary_parquet_api_Binary_.ent N)], hint := lookN [], cut := lookN [], N := N, res := [.tmp 4], rsh := [.any], nb := 0, ntmps := 9, own := false }
noncomputable def slices_Contains___parquet_api_Binary_parquet_api_Binary_.dec (v : V) (bs : List Blk) : Option (Bool) := match v, bs with
  | .c (.bool z0), [] => some z0
  | _, _ => none
set_option maxRecDepth 100000 in
theorem slices_Contains___parquet_api_Binary_parquet_api_Binary_.f_eq (N : Nat) (a1 : List Int) (a2 : Int) (a3 : Int) (a4 : Int) :
    evFun (slices_Contains___parquet_api_Binary_parquet_api_Binary_.E N) slices_Contains___parquet_api_Binary_parquet_api_Binary_.body [.il .i64 3 a1, .agg [.c (.int .i64 a2), .c (.int .i64 a3), .c (.int .i64 a4)]] [] slices_Contains___parquet_api_Binary_parquet_api_Binary_.dec = slices_Contains___parquet_api_Binary_parquet_api_Binary_.f N a1 a2 a3 a4 := by kernel_rfl
noncomputable def slices_Contains___parquet_api_Binary_parquet_api_Binary_.ent (N : Nat) : Entry := { A := Bool, fresh := 0, imm := [true, true], dec := fun args bs => match freezeL 0 (fun _ => .dead) [.il .i64 3, .recd [.any, .any, .any]] args, bs with
  | some [.il .i64 3 a1, .agg [.c (.int .i64 a2), .c (.int .i64 a3), .c (.int .i64 a4)]], [] => some (slices_Contains___parquet_api_Binary_parquet_api_Binary_.f N a1 a2 a3 a4, fun r => .one (.c (.bool r)) [])
  | _, _ => none }
theorem slices_Contains___parquet_api_Binary_parquet_api_Binary_.env (N : Nat) : EnvOK Try.prog (slices_Contains___parquet_api_Binary_parquet_api_Binary_.E N) := ⟨(TyOK.cons ty23_ok TyOK.nil), (TabOK.cons (slices_Index___parquet_api_Binary_parquet_api_Binary_.ent_ok N) TabOK.nil)⟩
theorem slices_Contains___parquet_api_Binary_parquet_api_Binary_.res_eq (N : Nat) : (slices_Contains___parquet_api_Binary_parquet_api_Binary_.E N).res = Try.f35.results.toList := by kernel_rfl
theorem slices_Contains___parquet_api_Binary_parquet_api_Binary_.spec (N : Nat) (a1 : List Int) (a2 : Int) (a3 : Int) (a4 : Int) (r : Bool) (h : slices_Contains___parquet_api_Binary_parquet_api_Binary_.f N a1 a2 a3 a4 = some r) : FnSpec Try.prog 35 [.il .i64 3 a1, .agg [.c (.int .i64 a2), .c (.int .i64 a3), .c (.int .i64 a4)]] [] (.c (.bool r)) ([]) := by
  rw [← slices_Contains___parquet_api_Binary_parquet_api_Binary_.f_eq] at h
  refine (evFun_ok (slices_Contains___parquet_api_Binary_parquet_api_Binary_.env N) Try_mixed Try.func35 (by kernel_rfl : Try.f35.body = some slices_Contains___parquet_api_Binary_parquet_api_Binary_.body) (by kernel_rfl) (slices_Contains___parquet_api_Binary_parquet_api_Binary_.res_eq N) (by kernel_rfl) (by kernel_rfl) (Nat.le_of_ble_eq_true (by kernel_rfl)) (AllCut.of (l := []) (by kernel_rfl) AllCut.nil) h).of fun v bs' h1 => ?_
  unfold slices_Contains___parquet_api_Binary_parquet_api_Binary_.dec at h1; split at h1
  · cases h1; exact ⟨rfl, rfl⟩
  · cases h1
theorem slices_Contains___parquet_api_Binary_parquet_api_Binary_.ent_ok (N : Nat) : TabOK1 Try.prog 35 (slices_Contains___parquet_api_Binary_parquet_api_Binary_.ent N) := by
  intro args bs a enc h
  simp only [slices_Contains___parquet_api_Binary_parquet_api_Binary_.ent] at h
  split at h
  · rename_i hz; have h0 := Option.some.inj h; have h1 := congrArg Prod.fst h0; have h2 := congrArg Prod.snd h0; dsimp only at h1 h2; subst h2; exact FnSpec.of_freeze hz (slices_Contains___parquet_api_Binary_parquet_api_Binary_.spec N _ _ _ _ a h1)
  · cases h
/-! parquet/cycle.Proper: function 11 -/
noncomputable def cycle_Proper.f (N : Nat) (a1 : Int) (a2 : Int) (a3 : Int) (a4 : Int) (a5 : Int) (a6 : Int) : Option (Bool × Int) :=
  (cycle_Reduce.f N a1 a2 a3).bind fun r7 =>
  bif r7.2.2.2.2.2.2.2 != 0 then
    some (false, r7.2.2.2.2.2.2.2)
  else
  (cycle_Reduce.f N a4 a5 a6).bind fun r8 =>
  bif r8.2.2.2.2.2.2.2 != 0 then
    some (false, r8.2.2.2.2.2.2.2)
  else
  (cycle_disc.f N r7.1 r7.2.1 r7.2.2.1).bind fun r9 =>
  (cycle_disc.f N r8.1 r8.2.1 r8.2.2.1).bind fun r10 =>
  bif r9 != r10 then
    some (false, 0)
  else
  (cycle_round.f N r7.1 r7.2.1 r7.2.2.1).bind fun r11 =>
  (slices_Contains___parquet_api_Binary_parquet_api_Binary_.f N r11.1 r8.1 r8.2.1 r8.2.2.1).bind fun r12 =>
  bif r12 then
    some (true, 0)
  else
  bif r11.2 then
    some (false, 9)
  else
  some (false, 0)
noncomputable def cycle_Proper.body : Code := (Try.f11.body).getD .skip
noncomputable def cycle_Proper.ty : List (Nat × TI) := [(23, ty23), (35, ty35)]
noncomputable def cycle_Proper.E (N : Nat) : Env := { ty := lookN cycle_Proper.ty, tab := lookN [(19, cycle_Reduce.ent N), (34, cycle_disc.ent N), (33, cycle_round.ent N), (35, slices_Contains___parquet_api_Binary_parquet_api_Binary_.ent N)], hint := lookN [], cut := lookN [], N := N, res := [.tmp 4, .tmp 5], rsh := [.any, .any], nb := 0, ntmps := 47, own := false }
noncomputable def cycle_Proper.dec (v : V) (bs : List Blk) : Option (Bool × Int) := match v, bs with
  | .tup [.c (.bool z0), .c (.int .i64 z1)], [] => some (z0, z1)
  | _, _ => none
set_option maxRecDepth 100000 in
theorem cycle_Proper.f_eq (N : Nat) (a1 : Int) (a2 : Int) (a3 : Int) (a4 : Int) (a5 : Int) (a6 : Int) :
    evFun (cycle_Proper.E N) cycle_Proper.body [.agg [.c (.int .i64 a1), .c (.int .i64 a2), .c (.int .i64 a3)], .agg [.c (.int .i64 a4), .c (.int .i64 a5), .c (.int .i64 a6)]] [] cycle_Proper.dec = cycle_Proper.f N a1 a2 a3 a4 a5 a6 := by kernel_rfl
noncomputable def cycle_Proper.ent (N : Nat) : Entry := { A := Bool × Int, fresh := 0, imm := [true, true], dec := fun args bs => match freezeL 0 (fun _ => .dead) [.recd [.any, .any, .any], .recd [.any, .any, .any]] args, bs with
  | some [.agg [.c (.int .i64 a1), .c (.int .i64 a2), .c (.int .i64 a3)], .agg [.c (.int .i64 a4), .c (.int .i64 a5), .c (.int .i64 a6)]], [] => some (cycle_Proper.f N a1 a2 a3 a4 a5 a6, fun r => .one (.tup [.c (.bool r.1), .c (.int .i64 r.2)]) [])
  | _, _ => none }
theorem cycle_Proper.env (N : Nat) : EnvOK Try.prog (cycle_Proper.E N) := ⟨(TyOK.cons ty23_ok (TyOK.cons ty35_ok TyOK.nil)), (TabOK.cons (cycle_Reduce.ent_ok N) (TabOK.cons (cycle_disc.ent_ok N) (TabOK.cons (cycle_round.ent_ok N) (TabOK.cons (slices_Contains___parquet_api_Binary_parquet_api_Binary_.ent_ok N) TabOK.nil))))⟩
theorem cycle_Proper.res_eq (N : Nat) : (cycle_Proper.E N).res = Try.f11.results.toList := by kernel_rfl
theorem cycle_Proper.spec (N : Nat) (a1 : Int) (a2 : Int) (a3 : Int) (a4 : Int) (a5 : Int) (a6 : Int) (r : Bool × Int) (h : cycle_Proper.f N a1 a2 a3 a4 a5 a6 = some r) : FnSpec Try.prog 11 [.agg [.c (.int .i64 a1), .c (.int .i64 a2), .c (.int .i64 a3)], .agg [.c (.int .i64 a4), .c (.int .i64 a5), .c (.int .i64 a6)]] [] (.tup [.c (.bool r.1), .c (.int .i64 r.2)]) ([]) := by
  rw [← cycle_Proper.f_eq] at h
  refine (evFun_ok (cycle_Proper.env N) Try_mixed Try.func11 (by kernel_rfl : Try.f11.body = some cycle_Proper.body) (by kernel_rfl) (cycle_Proper.res_eq N) (by kernel_rfl) (by kernel_rfl) (Nat.le_of_ble_eq_true (by kernel_rfl)) (AllCut.of (l := []) (by kernel_rfl) AllCut.nil) h).of fun v bs' h1 => ?_
  unfold cycle_Proper.dec at h1; split at h1
  · cases h1; exact ⟨rfl, rfl⟩
  · cases h1
theorem cycle_Proper.ent_ok (N : Nat) : TabOK1 Try.prog 11 (cycle_Proper.ent N) := by
  intro args bs a enc h
  simp only [cycle_Proper.ent] at h
  split at h
  · rename_i hz; have h0 := Option.some.inj h; have h1 := congrArg Prod.fst h0; have h2 := congrArg Prod.snd h0; dsimp only at h1 h2; subst h2; exact FnSpec.of_freeze hz (cycle_Proper.spec N _ _ _ _ _ _ a h1)
  · cases h
/-! parquet/parquetref09.Root: function 42 -/
noncomputable def parquetref09_Root.l3 {R : Type} (N : Nat) : Nat → Int → Int → Int → (Int → Option R) → Option R
  | 0, _, _, _, _ => none
  | n + 1, x2, x3, x4, k0 =>
    bif decide (x4 > 0) then
      bif decide ((wi64 ((wi64 (x3 + x4)) * (wi64 (x3 + x4)))) ≤ x2) then
        parquetref09_Root.l3 N n x2 (wi64 (x3 + x4)) (wi64 (Int.tdiv x4 2)) k0
      else
      parquetref09_Root.l3 N n x2 x3 (wi64 (Int.tdiv x4 2)) k0
    else
    k0 x3
noncomputable def parquetref09_Root.f (N : Nat) (a1 : Int) : Option (Int) :=
  parquetref09_Root.l3 N N a1 0 2147483648
    (fun y6 =>
      some y6)
noncomputable def parquetref09_Root.body : Code := (Try.f42.body).getD .skip
noncomputable def parquetref09_Root.ty : List (Nat × TI) := []
noncomputable def parquetref09_Root.h3 : Hint := ⟨[(0, .any), (3, .any), (4, .any)], [(3, .any)]⟩
noncomputable def parquetref09_Root.c3 (N : Nat) : Cut := ⟨fun vs H k => match vs, H with
  | [.c (.int .i64 x2), .c (.int .i64 x3), .c (.int .i64 x4)], [] => parquetref09_Root.l3 N N x2 x3 x4 (fun x5 => k (.exit 0) ⟨mkT parquetref09_Root.h3.out [.c (.int .i64 x5)], []⟩)
  | _, _ => none⟩
noncomputable def parquetref09_Root.E (N : Nat) : Env := { ty := lookN parquetref09_Root.ty, tab := lookN [], hint := lookN [(3, parquetref09_Root.h3)], cut := lookN [(3, parquetref09_Root.c3 N)], N := N, res := [.tmp 2], rsh := [.any], nb := 0, ntmps := 22, own := false }
noncomputable def parquetref09_Root.b3 : Code := inner ((subLoops parquetref09_Root.body).getD 0 .skip)
set_option maxRecDepth 100000 in
theorem parquetref09_Root.l3_eq {R : Type} (N n : Nat) (x2 : Int) (x3 : Int) (x4 : Int) (k : Ex → St → Option R) :
    evLoop 0 parquetref09_Root.h3 (fun s k => evCode (parquetref09_Root.E N) 394 parquetref09_Root.b3 s k) n [.c (.int .i64 x2), .c (.int .i64 x3), .c (.int .i64 x4)] [] k = parquetref09_Root.l3 N n x2 x3 x4 (fun x5 => k (.exit 0) ⟨mkT parquetref09_Root.h3.out [.c (.int .i64 x5)], []⟩) := by
  induction n generalizing x2 x3 x4 with
  | zero => kernel_rfl
  | succ n ih =>
    simp only [parquetref09_Root.l3, ← ih]
    kernel_rfl
noncomputable def parquetref09_Root.dec (v : V) (bs : List Blk) : Option (Int) := match v, bs with
  | .c (.int .i64 z0), [] => some z0
  | _, _ => none
set_option maxRecDepth 100000 in
theorem parquetref09_Root.f_eq (N : Nat) (a1 : Int) :
    evFun (parquetref09_Root.E N) parquetref09_Root.body [.c (.int .i64 a1)] [] parquetref09_Root.dec = parquetref09_Root.f N a1 := by kernel_rfl
noncomputable def parquetref09_Root.ent (N : Nat) : Entry := { A := Int, fresh := 0, imm := [true], dec := fun args bs => match freezeL 0 (fun _ => .dead) [.any] args, bs with
  | some [.c (.int .i64 a1)], [] => some (parquetref09_Root.f N a1, fun r => .one (.c (.int .i64 r)) [])
  | _, _ => none }
theorem parquetref09_Root.env (N : Nat) : EnvOK Try.prog (parquetref09_Root.E N) := ⟨TyOK.nil, TabOK.nil⟩
theorem parquetref09_Root.res_eq (N : Nat) : (parquetref09_Root.E N).res = Try.f42.results.toList := by kernel_rfl
theorem parquetref09_Root.k3 (N : Nat) : CutOK Try.prog Try.f42 (parquetref09_Root.E N) (.loop parquetref09_Root.b3) := by
  intro e hd he hh R vs H k r h
  have e1 : (parquetref09_Root.E N).cut (loopKey parquetref09_Root.b3) = some (parquetref09_Root.c3 N) := by kernel_rfl
  have e2 : (parquetref09_Root.E N).hint (loopKey parquetref09_Root.b3) = some parquetref09_Root.h3 := by kernel_rfl
  rw [e1] at he; rw [e2] at hh; cases he; cases hh
  unfold parquetref09_Root.c3 at h; dsimp only at h
  split at h
  · rw [← parquetref09_Root.l3_eq] at h
    exact loop_ok (evCode_ok (parquetref09_Root.env N) Try_mixed (parquetref09_Root.res_eq N) 394 parquetref09_Root.b3 (AllCut.of (l := []) (by kernel_rfl) AllCut.nil)) h
  · cases h
theorem parquetref09_Root.spec (N : Nat) (a1 : Int) (r : Int) (h : parquetref09_Root.f N a1 = some r) : FnSpec Try.prog 42 [.c (.int .i64 a1)] [] (.c (.int .i64 r)) ([]) := by
  rw [← parquetref09_Root.f_eq] at h
  refine (evFun_ok (parquetref09_Root.env N) Try_mixed Try.func42 (by kernel_rfl : Try.f42.body = some parquetref09_Root.body) (by kernel_rfl) (parquetref09_Root.res_eq N) (by kernel_rfl) (by kernel_rfl) (Nat.le_of_ble_eq_true (by kernel_rfl)) (AllCut.of (l := [(.loop (inner ((subLoops parquetref09_Root.body).getD 0 .skip)))]) (by kernel_rfl) (AllCut.cons (parquetref09_Root.k3 N) AllCut.nil)) h).of fun v bs' h1 => ?_
  unfold parquetref09_Root.dec at h1; split at h1
  · cases h1; exact ⟨rfl, rfl⟩
  · cases h1
theorem parquetref09_Root.ent_ok (N : Nat) : TabOK1 Try.prog 42 (parquetref09_Root.ent N) := by
  intro args bs a enc h
  simp only [parquetref09_Root.ent] at h
  split at h
  · rename_i hz; have h0 := Option.some.inj h; have h1 := congrArg Prod.fst h0; have h2 := congrArg Prod.snd h0; dsimp only at h1 h2; subst h2; exact FnSpec.of_freeze hz (parquetref09_Root.spec N _ a h1)
  · cases h
/-! parquet/parquetref09.size: function 43 -/
noncomputable def parquetref09_size.f (N : Nat) (a1 : Int) : Option (Int) :=
  bif decide (a1 < 0) then
    some (wi64 (0 - a1))
  else
  some a1
noncomputable def parquetref09_size.body : Code := (Try.f43.body).getD .skip
noncomputable def parquetref09_size.ty : List (Nat × TI) := []
noncomputable def parquetref09_size.E (N : Nat) : Env := { ty := lookN parquetref09_size.ty, tab := lookN [], hint := lookN [], cut := lookN [], N := N, res := [.tmp 2], rsh := [.any], nb := 0, ntmps := 8, own := false }
noncomputable def parquetref09_size.dec (v : V) (bs : List Blk) : Option (Int) := match v, bs with
  | .c (.int .i64 z0), [] => some z0
  | _, _ => none
set_option maxRecDepth 100000 in
theorem parquetref09_size.f_eq (N : Nat) (a1 : Int) :
    evFun (parquetref09_size.E N) parquetref09_size.body [.c (.int .i64 a1)] [] parquetref09_size.dec = parquetref09_size.f N a1 := by kernel_rfl
noncomputable def parquetref09_size.ent (N : Nat) : Entry := { A := Int, fresh := 0, imm := [true], dec := fun args bs => match freezeL 0 (fun _ => .dead) [.any] args, bs with
  | some [.c (.int .i64 a1)], [] => some (parquetref09_size.f N a1, fun r => .one (.c (.int .i64 r)) [])
  | _, _ => none }
theorem parquetref09_size.env (N : Nat) : EnvOK Try.prog (parquetref09_size.E N) := ⟨TyOK.nil, TabOK.nil⟩
theorem parquetref09_size.res_eq (N : Nat) : (parquetref09_size.E N).res = Try.f43.results.toList := by kernel_rfl
theorem parquetref09_size.spec (N : Nat) (a1 : Int) (r : Int) (h : parquetref09_size.f N a1 = some r) : FnSpec Try.prog 43 [.c (.int .i64 a1)] [] (.c (.int .i64 r)) ([]) := by
  rw [← parquetref09_size.f_eq] at h
  refine (evFun_ok (parquetref09_size.env N) Try_mixed Try.func43 (by kernel_rfl : Try.f43.body = some parquetref09_size.body) (by kernel_rfl) (parquetref09_size.res_eq N) (by kernel_rfl) (by kernel_rfl) (Nat.le_of_ble_eq_true (by kernel_rfl)) (AllCut.of (l := []) (by kernel_rfl) AllCut.nil) h).of fun v bs' h1 => ?_
  unfold parquetref09_size.dec at h1; split at h1
  · cases h1; exact ⟨rfl, rfl⟩
  · cases h1
theorem parquetref09_size.ent_ok (N : Nat) : TabOK1 Try.prog 43 (parquetref09_size.ent N) := by
  intro args bs a enc h
  simp only [parquetref09_size.ent] at h
  split at h
  · rename_i hz; have h0 := Option.some.inj h; have h1 := congrArg Prod.fst h0; have h2 := congrArg Prod.snd h0; dsimp only at h1 h2; subst h2; exact FnSpec.of_freeze hz (parquetref09_size.spec N _ a h1)
  · cases h
/-! parquet/parquetref09.Cross: function 36 -/
noncomputable def parquetref09_Cross.f (N : Nat) (a1 : Int) : Option (Bool) :=
  bif decide (a1 < 1) then
    some false
  else
  bif decide (a1 ≥ 1152921504606846976) then
    some false
  else
  bif decide ((Int.tmod a1 4) > 1) then
    some false
  else
  (parquetref09_Root.f N a1).bind fun r2 =>
  some ((wi64 (r2 * r2)) != a1)
noncomputable def parquetref09_Cross.body : Code := (Try.f36.body).getD .skip
noncomputable def parquetref09_Cross.ty : List (Nat × TI) := []
noncomputable def parquetref09_Cross.E (N : Nat) : Env := { ty := lookN parquetref09_Cross.ty, tab := lookN [(42, parquetref09_Root.ent N)], hint := lookN [], cut := lookN [], N := N, res := [.tmp 2], rsh := [.any], nb := 0, ntmps := 22, own := false }
noncomputable def parquetref09_Cross.dec (v : V) (bs : List Blk) : Option (Bool) := match v, bs with
  | .c (.bool z0), [] => some z0
  | _, _ => none
set_option maxRecDepth 100000 in
theorem parquetref09_Cross.f_eq (N : Nat) (a1 : Int) :
    evFun (parquetref09_Cross.E N) parquetref09_Cross.body [.c (.int .i64 a1)] [] parquetref09_Cross.dec = parquetref09_Cross.f N a1 := by kernel_rfl
noncomputable def parquetref09_Cross.ent (N : Nat) : Entry := { A := Bool, fresh := 0, imm := [true], dec := fun args bs => match freezeL 0 (fun _ => .dead) [.any] args, bs with
  | some [.c (.int .i64 a1)], [] => some (parquetref09_Cross.f N a1, fun r => .one (.c (.bool r)) [])
  | _, _ => none }
theorem parquetref09_Cross.env (N : Nat) : EnvOK Try.prog (parquetref09_Cross.E N) := ⟨TyOK.nil, (TabOK.cons (parquetref09_Root.ent_ok N) TabOK.nil)⟩
theorem parquetref09_Cross.res_eq (N : Nat) : (parquetref09_Cross.E N).res = Try.f36.results.toList := by kernel_rfl
theorem parquetref09_Cross.spec (N : Nat) (a1 : Int) (r : Bool) (h : parquetref09_Cross.f N a1 = some r) : FnSpec Try.prog 36 [.c (.int .i64 a1)] [] (.c (.bool r)) ([]) := by
  rw [← parquetref09_Cross.f_eq] at h
  refine (evFun_ok (parquetref09_Cross.env N) Try_mixed Try.func36 (by kernel_rfl : Try.f36.body = some parquetref09_Cross.body) (by kernel_rfl) (parquetref09_Cross.res_eq N) (by kernel_rfl) (by kernel_rfl) (Nat.le_of_ble_eq_true (by kernel_rfl)) (AllCut.of (l := []) (by kernel_rfl) AllCut.nil) h).of fun v bs' h1 => ?_
  unfold parquetref09_Cross.dec at h1; split at h1
  · cases h1; exact ⟨rfl, rfl⟩
  · cases h1
theorem parquetref09_Cross.ent_ok (N : Nat) : TabOK1 Try.prog 36 (parquetref09_Cross.ent N) := by
  intro args bs a enc h
  simp only [parquetref09_Cross.ent] at h
  split at h
  · rename_i hz; have h0 := Option.some.inj h; have h1 := congrArg Prod.fst h0; have h2 := congrArg Prod.snd h0; dsimp only at h1 h2; subst h2; exact FnSpec.of_freeze hz (parquetref09_Cross.spec N _ a h1)
  · cases h
/-! parquet/parquetref09.Check: function 12 -/
noncomputable def parquetref09_Check.f (N : Nat) (a1 : Int) (a2 : Int) (a3 : Int) : Option (Int) :=
  bif decide (a1 > 1073741824) then
    some 3
  else
  bif decide (a1 < (-1073741824)) then
    some 3
  else
  bif decide (a2 > 1073741824) then
    some 3
  else
  bif decide (a2 < (-1073741824)) then
    some 3
  else
  bif decide (a3 > 1073741824) then
    some 3
  else
  bif decide (a3 < (-1073741824)) then
    some 3
  else
  (parquetref09_Cross.f N (wi64 ((wi64 (a2 * a2)) - (wi64 ((wi64 (4 * a1)) * a3))))).bind fun r4 =>
  bif !r4 then
    some 80
  else
  some 0
noncomputable def parquetref09_Check.body : Code := (Try.f12.body).getD .skip
noncomputable def parquetref09_Check.ty : List (Nat × TI) := [(2, ty2), (23, ty23), (57, ty57)]
noncomputable def parquetref09_Check.h3 : Hint := ⟨[(1, .box [.any, .any, .any]), (3, .box [.any, .any, .any]), (4, .any)], [(1, .any)]⟩
noncomputable def parquetref09_Check.E (N : Nat) : Env := { ty := lookN parquetref09_Check.ty, tab := lookN [(36, parquetref09_Cross.ent N)], hint := lookN [(3, parquetref09_Check.h3)], cut := lookN [], N := 40, res := [.tmp 2], rsh := [.any], nb := 0, ntmps := 42, own := false }
noncomputable def parquetref09_Check.dec (v : V) (bs : List Blk) : Option (Int) := match v, bs with
  | .c (.int .i64 z0), [] => some z0
  | _, _ => none
set_option maxRecDepth 100000 in
theorem parquetref09_Check.f_eq (N : Nat) (a1 : Int) (a2 : Int) (a3 : Int) :
    evFun (parquetref09_Check.E N) parquetref09_Check.body [.agg [.c (.int .i64 a1), .c (.int .i64 a2), .c (.int .i64 a3)]] [] parquetref09_Check.dec = parquetref09_Check.f N a1 a2 a3 := by kernel_rfl
noncomputable def parquetref09_Check.ent (N : Nat) : Entry := { A := Int, fresh := 0, imm := [true], dec := fun args bs => match freezeL 0 (fun _ => .dead) [.recd [.any, .any, .any]] args, bs with
  | some [.agg [.c (.int .i64 a1), .c (.int .i64 a2), .c (.int .i64 a3)]], [] => some (parquetref09_Check.f N a1 a2 a3, fun r => .one (.c (.int .i64 r)) [])
  | _, _ => none }
theorem parquetref09_Check.env (N : Nat) : EnvOK Try.prog (parquetref09_Check.E N) := ⟨(TyOK.cons ty2_ok (TyOK.cons ty23_ok (TyOK.cons ty57_ok TyOK.nil))), (TabOK.cons (parquetref09_Cross.ent_ok N) TabOK.nil)⟩
theorem parquetref09_Check.res_eq (N : Nat) : (parquetref09_Check.E N).res = Try.f12.results.toList := by kernel_rfl
theorem parquetref09_Check.spec (N : Nat) (a1 : Int) (a2 : Int) (a3 : Int) (r : Int) (h : parquetref09_Check.f N a1 a2 a3 = some r) : FnSpec Try.prog 12 [.agg [.c (.int .i64 a1), .c (.int .i64 a2), .c (.int .i64 a3)]] [] (.c (.int .i64 r)) ([]) := by
  rw [← parquetref09_Check.f_eq] at h
  refine (evFun_ok (parquetref09_Check.env N) Try_mixed Try.func12 (by kernel_rfl : Try.f12.body = some parquetref09_Check.body) (by kernel_rfl) (parquetref09_Check.res_eq N) (by kernel_rfl) (by kernel_rfl) (Nat.le_of_ble_eq_true (by kernel_rfl)) (AllCut.of (l := [(.loop (inner ((subLoops parquetref09_Check.body).getD 0 .skip)))]) (by kernel_rfl) (AllCut.cons (cut_loop (by kernel_rfl)) AllCut.nil)) h).of fun v bs' h1 => ?_
  unfold parquetref09_Check.dec at h1; split at h1
  · cases h1; exact ⟨rfl, rfl⟩
  · cases h1
theorem parquetref09_Check.ent_ok (N : Nat) : TabOK1 Try.prog 12 (parquetref09_Check.ent N) := by
  intro args bs a enc h
  simp only [parquetref09_Check.ent] at h
  split at h
  · rename_i hz; have h0 := Option.some.inj h; have h1 := congrArg Prod.fst h0; have h2 := congrArg Prod.snd h0; dsimp only at h1 h2; subst h2; exact FnSpec.of_freeze hz (parquetref09_Check.spec N _ _ _ a h1)
  · cases h
/-! parquet/parquetref09.Reduced: function 23 -/
noncomputable def parquetref09_Reduced.f (N : Nat) (a1 : Int) (a2 : Int) (a3 : Int) : Option (Bool) :=
  (parquetref09_Root.f N (wi64 ((wi64 (a2 * a2)) - (wi64 ((wi64 (4 * a1)) * a3))))).bind fun r4 =>
  (parquetref09_size.f N a1).bind fun r5 =>
  bif decide (a2 ≥ 1) then
    bif decide (a2 ≤ r4) then
      bif decide (r4 < (wi64 (a2 + (wi64 (2 * r5))))) then
        some (decide ((wi64 ((wi64 (2 * r5)) - a2)) ≤ r4))
      else
      some false
    else
    some false
  else
  some false
noncomputable def parquetref09_Reduced.body : Code := (Try.f23.body).getD .skip
noncomputable def parquetref09_Reduced.ty : List (Nat × TI) := [(2, ty2), (23, ty23)]
noncomputable def parquetref09_Reduced.E (N : Nat) : Env := { ty := lookN parquetref09_Reduced.ty, tab := lookN [(42, parquetref09_Root.ent N), (43, parquetref09_size.ent N)], hint := lookN [], cut := lookN [], N := N, res := [.tmp 2], rsh := [.any], nb := 0, ntmps := 48, own := false }
noncomputable def parquetref09_Reduced.dec (v : V) (bs : List Blk) : Option (Bool) := match v, bs with
  | .c (.bool z0), [] => some z0
  | _, _ => none
set_option maxRecDepth 100000 in
theorem parquetref09_Reduced.f_eq (N : Nat) (a1 : Int) (a2 : Int) (a3 : Int) :
    evFun (parquetref09_Reduced.E N) parquetref09_Reduced.body [.agg [.c (.int .i64 a1), .c (.int .i64 a2), .c (.int .i64 a3)]] [] parquetref09_Reduced.dec = parquetref09_Reduced.f N a1 a2 a3 := by kernel_rfl
noncomputable def parquetref09_Reduced.ent (N : Nat) : Entry := { A := Bool, fresh := 0, imm := [true], dec := fun args bs => match freezeL 0 (fun _ => .dead) [.recd [.any, .any, .any]] args, bs with
  | some [.agg [.c (.int .i64 a1), .c (.int .i64 a2), .c (.int .i64 a3)]], [] => some (parquetref09_Reduced.f N a1 a2 a3, fun r => .one (.c (.bool r)) [])
  | _, _ => none }
theorem parquetref09_Reduced.env (N : Nat) : EnvOK Try.prog (parquetref09_Reduced.E N) := ⟨(TyOK.cons ty2_ok (TyOK.cons ty23_ok TyOK.nil)), (TabOK.cons (parquetref09_Root.ent_ok N) (TabOK.cons (parquetref09_size.ent_ok N) TabOK.nil))⟩
theorem parquetref09_Reduced.res_eq (N : Nat) : (parquetref09_Reduced.E N).res = Try.f23.results.toList := by kernel_rfl
theorem parquetref09_Reduced.spec (N : Nat) (a1 : Int) (a2 : Int) (a3 : Int) (r : Bool) (h : parquetref09_Reduced.f N a1 a2 a3 = some r) : FnSpec Try.prog 23 [.agg [.c (.int .i64 a1), .c (.int .i64 a2), .c (.int .i64 a3)]] [] (.c (.bool r)) ([]) := by
  rw [← parquetref09_Reduced.f_eq] at h
  refine (evFun_ok (parquetref09_Reduced.env N) Try_mixed Try.func23 (by kernel_rfl : Try.f23.body = some parquetref09_Reduced.body) (by kernel_rfl) (parquetref09_Reduced.res_eq N) (by kernel_rfl) (by kernel_rfl) (Nat.le_of_ble_eq_true (by kernel_rfl)) (AllCut.of (l := []) (by kernel_rfl) AllCut.nil) h).of fun v bs' h1 => ?_
  unfold parquetref09_Reduced.dec at h1; split at h1
  · cases h1; exact ⟨rfl, rfl⟩
  · cases h1
theorem parquetref09_Reduced.ent_ok (N : Nat) : TabOK1 Try.prog 23 (parquetref09_Reduced.ent N) := by
  intro args bs a enc h
  simp only [parquetref09_Reduced.ent] at h
  split at h
  · rename_i hz; have h0 := Option.some.inj h; have h1 := congrArg Prod.fst h0; have h2 := congrArg Prod.snd h0; dsimp only at h1 h2; subst h2; exact FnSpec.of_freeze hz (parquetref09_Reduced.spec N _ _ _ a h1)
  · cases h
/-! parquet/parquetref09.Next: function 21 -/
noncomputable def parquetref09_Next.f (N : Nat) (a1 : Int) (a2 : Int) (a3 : Int) : Option (Int × Int × Int × Int × Int × Int × Int) :=
  (parquetref09_Root.f N (wi64 ((wi64 (a2 * a2)) - (wi64 ((wi64 (4 * a1)) * a3))))).bind fun r4 =>
  (parquetref09_size.f N a3).bind fun r5 =>
  bif decide (r5 > r4) then
    bif !((wi64 (2 * r5)) == 0) then
      bif decide ((Int.tmod (wi64 ((wi64 (0 - a2)) - (wi64 (0 - r5)))) (wi64 (2 * r5))) ≤ 0) then
        bif !((wi64 (4 * a3)) == 0) then
          bif !((wi64 (2 * a3)) == 0) then
            some (a3, wi64 ((wi64 ((Int.tmod (wi64 ((wi64 (0 - a2)) - (wi64 (0 - r5)))) (wi64 (2 * r5))) + (wi64 (2 * r5)))) + (wi64 (0 - r5))), wi64 (Int.tdiv (wi64 ((wi64 ((wi64 ((wi64 ((Int.tmod (wi64 ((wi64 (0 - a2)) - (wi64 (0 - r5)))) (wi64 (2 * r5))) + (wi64 (2 * r5)))) + (wi64 (0 - r5)))) * (wi64 ((wi64 ((Int.tmod (wi64 ((wi64 (0 - a2)) - (wi64 (0 - r5)))) (wi64 (2 * r5))) + (wi64 (2 * r5)))) + (wi64 (0 - r5)))))) - (wi64 ((wi64 (a2 * a2)) - (wi64 ((wi64 (4 * a1)) * a3)))))) (wi64 (4 * a3))), 0, (-1), 1, wi64 (Int.tdiv (wi64 (a2 + (wi64 ((wi64 ((Int.tmod (wi64 ((wi64 (0 - a2)) - (wi64 (0 - r5)))) (wi64 (2 * r5))) + (wi64 (2 * r5)))) + (wi64 (0 - r5)))))) (wi64 (2 * a3))))
          else none
        else none
      else
      bif !((wi64 (4 * a3)) == 0) then
        bif !((wi64 (2 * a3)) == 0) then
          some (a3, wi64 ((Int.tmod (wi64 ((wi64 (0 - a2)) - (wi64 (0 - r5)))) (wi64 (2 * r5))) + (wi64 (0 - r5))), wi64 (Int.tdiv (wi64 ((wi64 ((wi64 ((Int.tmod (wi64 ((wi64 (0 - a2)) - (wi64 (0 - r5)))) (wi64 (2 * r5))) + (wi64 (0 - r5)))) * (wi64 ((Int.tmod (wi64 ((wi64 (0 - a2)) - (wi64 (0 - r5)))) (wi64 (2 * r5))) + (wi64 (0 - r5)))))) - (wi64 ((wi64 (a2 * a2)) - (wi64 ((wi64 (4 * a1)) * a3)))))) (wi64 (4 * a3))), 0, (-1), 1, wi64 (Int.tdiv (wi64 (a2 + (wi64 ((Int.tmod (wi64 ((wi64 (0 - a2)) - (wi64 (0 - r5)))) (wi64 (2 * r5))) + (wi64 (0 - r5)))))) (wi64 (2 * a3))))
        else none
      else none
    else none
  else
  bif !((wi64 (2 * r5)) == 0) then
    bif decide ((Int.tmod (wi64 ((wi64 (0 - a2)) - (wi64 (r4 - (wi64 (2 * r5)))))) (wi64 (2 * r5))) ≤ 0) then
      bif !((wi64 (4 * a3)) == 0) then
        bif !((wi64 (2 * a3)) == 0) then
          some (a3, wi64 ((wi64 ((Int.tmod (wi64 ((wi64 (0 - a2)) - (wi64 (r4 - (wi64 (2 * r5)))))) (wi64 (2 * r5))) + (wi64 (2 * r5)))) + (wi64 (r4 - (wi64 (2 * r5))))), wi64 (Int.tdiv (wi64 ((wi64 ((wi64 ((wi64 ((Int.tmod (wi64 ((wi64 (0 - a2)) - (wi64 (r4 - (wi64 (2 * r5)))))) (wi64 (2 * r5))) + (wi64 (2 * r5)))) + (wi64 (r4 - (wi64 (2 * r5)))))) * (wi64 ((wi64 ((Int.tmod (wi64 ((wi64 (0 - a2)) - (wi64 (r4 - (wi64 (2 * r5)))))) (wi64 (2 * r5))) + (wi64 (2 * r5)))) + (wi64 (r4 - (wi64 (2 * r5)))))))) - (wi64 ((wi64 (a2 * a2)) - (wi64 ((wi64 (4 * a1)) * a3)))))) (wi64 (4 * a3))), 0, (-1), 1, wi64 (Int.tdiv (wi64 (a2 + (wi64 ((wi64 ((Int.tmod (wi64 ((wi64 (0 - a2)) - (wi64 (r4 - (wi64 (2 * r5)))))) (wi64 (2 * r5))) + (wi64 (2 * r5)))) + (wi64 (r4 - (wi64 (2 * r5)))))))) (wi64 (2 * a3))))
        else none
      else none
    else
    bif !((wi64 (4 * a3)) == 0) then
      bif !((wi64 (2 * a3)) == 0) then
        some (a3, wi64 ((Int.tmod (wi64 ((wi64 (0 - a2)) - (wi64 (r4 - (wi64 (2 * r5)))))) (wi64 (2 * r5))) + (wi64 (r4 - (wi64 (2 * r5))))), wi64 (Int.tdiv (wi64 ((wi64 ((wi64 ((Int.tmod (wi64 ((wi64 (0 - a2)) - (wi64 (r4 - (wi64 (2 * r5)))))) (wi64 (2 * r5))) + (wi64 (r4 - (wi64 (2 * r5)))))) * (wi64 ((Int.tmod (wi64 ((wi64 (0 - a2)) - (wi64 (r4 - (wi64 (2 * r5)))))) (wi64 (2 * r5))) + (wi64 (r4 - (wi64 (2 * r5)))))))) - (wi64 ((wi64 (a2 * a2)) - (wi64 ((wi64 (4 * a1)) * a3)))))) (wi64 (4 * a3))), 0, (-1), 1, wi64 (Int.tdiv (wi64 (a2 + (wi64 ((Int.tmod (wi64 ((wi64 (0 - a2)) - (wi64 (r4 - (wi64 (2 * r5)))))) (wi64 (2 * r5))) + (wi64 (r4 - (wi64 (2 * r5)))))))) (wi64 (2 * a3))))
      else none
    else none
  else none
noncomputable def parquetref09_Next.body : Code := (Try.f21.body).getD .skip
noncomputable def parquetref09_Next.ty : List (Nat × TI) := [(2, ty2), (23, ty23), (35, ty35)]
noncomputable def parquetref09_Next.E (N : Nat) : Env := { ty := lookN parquetref09_Next.ty, tab := lookN [(42, parquetref09_Root.ent N), (43, parquetref09_size.ent N)], hint := lookN [], cut := lookN [], N := N, res := [.cell 2 23, .cell 3 35], rsh := [.recd [.any, .any, .any], .recd [.any, .any, .any, .any]], nb := 0, ntmps := 74, own := false }
noncomputable def parquetref09_Next.dec (v : V) (bs : List Blk) : Option (Int × Int × Int × Int × Int × Int × Int) := match v, bs with
  | .tup [.agg [.c (.int .i64 z0), .c (.int .i64 z1), .c (.int .i64 z2)], .agg [.c (.int .i64 z3), .c (.int .i64 z4), .c (.int .i64 z5), .c (.int .i64 z6)]], [] => some (z0, z1, z2, z3, z4, z5, z6)
  | _, _ => none
set_option maxRecDepth 100000 in
theorem parquetref09_Next.f_eq (N : Nat) (a1 : Int) (a2 : Int) (a3 : Int) :
    evFun (parquetref09_Next.E N) parquetref09_Next.body [.agg [.c (.int .i64 a1), .c (.int .i64 a2), .c (.int .i64 a3)]] [] parquetref09_Next.dec = parquetref09_Next.f N a1 a2 a3 := by kernel_rfl
noncomputable def parquetref09_Next.ent (N : Nat) : Entry := { A := Int × Int × Int × Int × Int × Int × Int, fresh := 0, imm := [true], dec := fun args bs => match freezeL 0 (fun _ => .dead) [.recd [.any, .any, .any]] args, bs with
  | some [.agg [.c (.int .i64 a1), .c (.int .i64 a2), .c (.int .i64 a3)]], [] => some (parquetref09_Next.f N a1 a2 a3, fun r => .one (.tup [.agg [.c (.int .i64 r.1), .c (.int .i64 r.2.1), .c (.int .i64 r.2.2.1)], .agg [.c (.int .i64 r.2.2.2.1), .c (.int .i64 r.2.2.2.2.1), .c (.int .i64 r.2.2.2.2.2.1), .c (.int .i64 r.2.2.2.2.2.2)]]) [])
  | _, _ => none }
theorem parquetref09_Next.env (N : Nat) : EnvOK Try.prog (parquetref09_Next.E N) := ⟨(TyOK.cons ty2_ok (TyOK.cons ty23_ok (TyOK.cons ty35_ok TyOK.nil))), (TabOK.cons (parquetref09_Root.ent_ok N) (TabOK.cons (parquetref09_size.ent_ok N) TabOK.nil))⟩
theorem parquetref09_Next.res_eq (N : Nat) : (parquetref09_Next.E N).res = Try.f21.results.toList := by kernel_rfl
theorem parquetref09_Next.spec (N : Nat) (a1 : Int) (a2 : Int) (a3 : Int) (r : Int × Int × Int × Int × Int × Int × Int) (h : parquetref09_Next.f N a1 a2 a3 = some r) : FnSpec Try.prog 21 [.agg [.c (.int .i64 a1), .c (.int .i64 a2), .c (.int .i64 a3)]] [] (.tup [.agg [.c (.int .i64 r.1), .c (.int .i64 r.2.1), .c (.int .i64 r.2.2.1)], .agg [.c (.int .i64 r.2.2.2.1), .c (.int .i64 r.2.2.2.2.1), .c (.int .i64 r.2.2.2.2.2.1), .c (.int .i64 r.2.2.2.2.2.2)]]) ([]) := by
  rw [← parquetref09_Next.f_eq] at h
  refine (evFun_ok (parquetref09_Next.env N) Try_mixed Try.func21 (by kernel_rfl : Try.f21.body = some parquetref09_Next.body) (by kernel_rfl) (parquetref09_Next.res_eq N) (by kernel_rfl) (by kernel_rfl) (Nat.le_of_ble_eq_true (by kernel_rfl)) (AllCut.of (l := []) (by kernel_rfl) AllCut.nil) h).of fun v bs' h1 => ?_
  unfold parquetref09_Next.dec at h1; split at h1
  · cases h1; exact ⟨rfl, rfl⟩
  · cases h1
theorem parquetref09_Next.ent_ok (N : Nat) : TabOK1 Try.prog 21 (parquetref09_Next.ent N) := by
  intro args bs a enc h
  simp only [parquetref09_Next.ent] at h
  split at h
  · rename_i hz; have h0 := Option.some.inj h; have h1 := congrArg Prod.fst h0; have h2 := congrArg Prod.snd h0; dsimp only at h1 h2; subst h2; exact FnSpec.of_freeze hz (parquetref09_Next.spec N _ _ _ a h1)
  · cases h
/-! parquet/parquetref09.Times: function 44 -/
noncomputable def parquetref09_Times.f (N : Nat) (a1 : Int) (a2 : Int) (a3 : Int) (a4 : Int) (a5 : Int) (a6 : Int) (a7 : Int) (a8 : Int) : Option (Int × Int × Int × Int) :=
  some (wi64 ((wi64 (a1 * a5)) + (wi64 (a2 * a7))), wi64 ((wi64 (a1 * a6)) + (wi64 (a2 * a8))), wi64 ((wi64 (a3 * a5)) + (wi64 (a4 * a7))), wi64 ((wi64 (a3 * a6)) + (wi64 (a4 * a8))))
noncomputable def parquetref09_Times.body : Code := (Try.f44.body).getD .skip
noncomputable def parquetref09_Times.ty : List (Nat × TI) := [(2, ty2), (35, ty35)]
noncomputable def parquetref09_Times.E (N : Nat) : Env := { ty := lookN parquetref09_Times.ty, tab := lookN [], hint := lookN [], cut := lookN [], N := N, res := [.cell 4 35], rsh := [.recd [.any, .any, .any, .any]], nb := 0, ntmps := 50, own := false }
noncomputable def parquetref09_Times.dec (v : V) (bs : List Blk) : Option (Int × Int × Int × Int) := match v, bs with
  | .agg [.c (.int .i64 z0), .c (.int .i64 z1), .c (.int .i64 z2), .c (.int .i64 z3)], [] => some (z0, z1, z2, z3)
  | _, _ => none
set_option maxRecDepth 100000 in
theorem parquetref09_Times.f_eq (N : Nat) (a1 : Int) (a2 : Int) (a3 : Int) (a4 : Int) (a5 : Int) (a6 : Int) (a7 : Int) (a8 : Int) :
    evFun (parquetref09_Times.E N) parquetref09_Times.body [.agg [.c (.int .i64 a1), .c (.int .i64 a2), .c (.int .i64 a3), .c (.int .i64 a4)], .agg [.c (.int .i64 a5), .c (.int .i64 a6), .c (.int .i64 a7), .c (.int .i64 a8)]] [] parquetref09_Times.dec = parquetref09_Times.f N a1 a2 a3 a4 a5 a6 a7 a8 := by kernel_rfl
noncomputable def parquetref09_Times.ent (N : Nat) : Entry := { A := Int × Int × Int × Int, fresh := 0, imm := [true, true], dec := fun args bs => match freezeL 0 (fun _ => .dead) [.recd [.any, .any, .any, .any], .recd [.any, .any, .any, .any]] args, bs with
  | some [.agg [.c (.int .i64 a1), .c (.int .i64 a2), .c (.int .i64 a3), .c (.int .i64 a4)], .agg [.c (.int .i64 a5), .c (.int .i64 a6), .c (.int .i64 a7), .c (.int .i64 a8)]], [] => some (parquetref09_Times.f N a1 a2 a3 a4 a5 a6 a7 a8, fun r => .one (.agg [.c (.int .i64 r.1), .c (.int .i64 r.2.1), .c (.int .i64 r.2.2.1), .c (.int .i64 r.2.2.2)]) [])
  | _, _ => none }
theorem parquetref09_Times.env (N : Nat) : EnvOK Try.prog (parquetref09_Times.E N) := ⟨(TyOK.cons ty2_ok (TyOK.cons ty35_ok TyOK.nil)), TabOK.nil⟩
theorem parquetref09_Times.res_eq (N : Nat) : (parquetref09_Times.E N).res = Try.f44.results.toList := by kernel_rfl
theorem parquetref09_Times.spec (N : Nat) (a1 : Int) (a2 : Int) (a3 : Int) (a4 : Int) (a5 : Int) (a6 : Int) (a7 : Int) (a8 : Int) (r : Int × Int × Int × Int) (h : parquetref09_Times.f N a1 a2 a3 a4 a5 a6 a7 a8 = some r) : FnSpec Try.prog 44 [.agg [.c (.int .i64 a1), .c (.int .i64 a2), .c (.int .i64 a3), .c (.int .i64 a4)], .agg [.c (.int .i64 a5), .c (.int .i64 a6), .c (.int .i64 a7), .c (.int .i64 a8)]] [] (.agg [.c (.int .i64 r.1), .c (.int .i64 r.2.1), .c (.int .i64 r.2.2.1), .c (.int .i64 r.2.2.2)]) ([]) := by
  rw [← parquetref09_Times.f_eq] at h
  refine (evFun_ok (parquetref09_Times.env N) Try_mixed Try.func44 (by kernel_rfl : Try.f44.body = some parquetref09_Times.body) (by kernel_rfl) (parquetref09_Times.res_eq N) (by kernel_rfl) (by kernel_rfl) (Nat.le_of_ble_eq_true (by kernel_rfl)) (AllCut.of (l := []) (by kernel_rfl) AllCut.nil) h).of fun v bs' h1 => ?_
  unfold parquetref09_Times.dec at h1; split at h1
  · cases h1; exact ⟨rfl, rfl⟩
  · cases h1
theorem parquetref09_Times.ent_ok (N : Nat) : TabOK1 Try.prog 44 (parquetref09_Times.ent N) := by
  intro args bs a enc h
  simp only [parquetref09_Times.ent] at h
  split at h
  · rename_i hz; have h0 := Option.some.inj h; have h1 := congrArg Prod.fst h0; have h2 := congrArg Prod.snd h0; dsimp only at h1 h2; subst h2; exact FnSpec.of_freeze hz (parquetref09_Times.spec N _ _ _ _ _ _ _ _ a h1)
  · cases h
/-! parquet/parquetref09.Reduce: function 22 -/
noncomputable def parquetref09_Reduce.l2 {R : Type} (N : Nat) : Nat → Int → Int → Int → Int → Int → Int → Int → Int → Int → Int → Int → Int → Int → Int → (Int → Int → Int → Int → Int → Int → Int → Option R) → Option R
  | 0, _, _, _, _, _, _, _, _, _, _, _, _, _, _, _ => none
  | n + 1, x4, x5, x6, x7, x8, x9, x10, x11, x12, x13, x14, x15, x16, x17, kr =>
    (parquetref09_Reduced.f N x4 x5 x6).bind fun r18 =>
    bif r18 then
      kr x4 x5 x6 x14 x15 x16 x17
    else
    (parquetref09_Next.f N x4 x5 x6).bind fun r26 =>
    (parquetref09_Times.f N x14 x15 x16 x17 r26.2.2.2.1 r26.2.2.2.2.1 r26.2.2.2.2.2.1 r26.2.2.2.2.2.2).bind fun r27 =>
    parquetref09_Reduce.l2 N n r26.1 r26.2.1 r26.2.2.1 x7 x8 x9 x10 x11 x12 x13 r27.1 r27.2.1 r27.2.2.1 r27.2.2.2 kr
noncomputable def parquetref09_Reduce.f (N : Nat) (a1 : Int) (a2 : Int) (a3 : Int) : Option (Int × Int × Int × Int × Int × Int × Int) :=
  parquetref09_Reduce.l2 N N a1 a2 a3 0 0 0 0 0 0 0 1 0 0 1
    (fun y28 y29 y30 y31 y32 y33 y34 =>
      some (y28, y29, y30, y31, y32, y33, y34))
noncomputable def parquetref09_Reduce.body : Code := (Try.f22.body).getD .skip
noncomputable def parquetref09_Reduce.ty : List (Nat × TI) := [(2, ty2), (23, ty23), (35, ty35)]
noncomputable def parquetref09_Reduce.h2 : Hint := ⟨[(1, .box [.any, .any, .any]), (2, .box [.any, .any, .any]), (3, .box [.any, .any, .any, .any]), (4, .box [.any, .any, .any, .any])], []⟩
noncomputable def parquetref09_Reduce.c2 (N : Nat) : Cut := ⟨fun vs H k => match vs, H with
  | [.ptr 0 0 3, .ptr 1 0 3, .ptr 2 0 4, .ptr 3 0 4], [.vals [.c (.int .i64 x4), .c (.int .i64 x5), .c (.int .i64 x6)], .vals [.c (.int .i64 x7), .c (.int .i64 x8), .c (.int .i64 x9)], .vals [.c (.int .i64 x10), .c (.int .i64 x11), .c (.int .i64 x12), .c (.int .i64 x13)], .vals [.c (.int .i64 x14), .c (.int .i64 x15), .c (.int .i64 x16), .c (.int .i64 x17)]] => parquetref09_Reduce.l2 N N x4 x5 x6 x7 x8 x9 x10 x11 x12 x13 x14 x15 x16 x17 (fun x19 x20 x21 x22 x23 x24 x25 => k (.ret (.tup [.agg [.c (.int .i64 x19), .c (.int .i64 x20), .c (.int .i64 x21)], .agg [.c (.int .i64 x22), .c (.int .i64 x23), .c (.int .i64 x24), .c (.int .i64 x25)]]) []) .nil)
  | _, _ => none⟩
noncomputable def parquetref09_Reduce.E (N : Nat) : Env := { ty := lookN parquetref09_Reduce.ty, tab := lookN [(23, parquetref09_Reduced.ent N), (21, parquetref09_Next.ent N), (44, parquetref09_Times.ent N)], hint := lookN [(2, parquetref09_Reduce.h2)], cut := lookN [(2, parquetref09_Reduce.c2 N)], N := N, res := [.cell 2 23, .cell 3 35], rsh := [.recd [.any, .any, .any], .recd [.any, .any, .any, .any]], nb := 0, ntmps := 23, own := false }
noncomputable def parquetref09_Reduce.b2 : Code := inner ((subLoops parquetref09_Reduce.body).getD 0 .skip)
set_option maxRecDepth 100000 in
theorem parquetref09_Reduce.l2_eq {R : Type} (N n : Nat) (x4 : Int) (x5 : Int) (x6 : Int) (x7 : Int) (x8 : Int) (x9 : Int) (x10 : Int) (x11 : Int) (x12 : Int) (x13 : Int) (x14 : Int) (x15 : Int) (x16 : Int) (x17 : Int) (k : Ex → St → Option R) :
    evLoop 0 parquetref09_Reduce.h2 (fun s k => evCode (parquetref09_Reduce.E N) 396 parquetref09_Reduce.b2 s k) n [.ptr 0 0 3, .ptr 1 0 3, .ptr 2 0 4, .ptr 3 0 4] [.vals [.c (.int .i64 x4), .c (.int .i64 x5), .c (.int .i64 x6)], .vals [.c (.int .i64 x7), .c (.int .i64 x8), .c (.int .i64 x9)], .vals [.c (.int .i64 x10), .c (.int .i64 x11), .c (.int .i64 x12), .c (.int .i64 x13)], .vals [.c (.int .i64 x14), .c (.int .i64 x15), .c (.int .i64 x16), .c (.int .i64 x17)]] k = parquetref09_Reduce.l2 N n x4 x5 x6 x7 x8 x9 x10 x11 x12 x13 x14 x15 x16 x17 (fun x19 x20 x21 x22 x23 x24 x25 => k (.ret (.tup [.agg [.c (.int .i64 x19), .c (.int .i64 x20), .c (.int .i64 x21)], .agg [.c (.int .i64 x22), .c (.int .i64 x23), .c (.int .i64 x24), .c (.int .i64 x25)]]) []) .nil) := by
  induction n generalizing x4 x5 x6 x7 x8 x9 x10 x11 x12 x13 x14 x15 x16 x17 with
  | zero => kernel_rfl
  | succ n ih =>
    simp only [parquetref09_Reduce.l2, ← ih]
    kernel_rfl
noncomputable def parquetref09_Reduce.dec (v : V) (bs : List Blk) : Option (Int × Int × Int × Int × Int × Int × Int) := match v, bs with
  | .tup [.agg [.c (.int .i64 z0), .c (.int .i64 z1), .c (.int .i64 z2)], .agg [.c (.int .i64 z3), .c (.int .i64 z4), .c (.int .i64 z5), .c (.int .i64 z6)]], [] => some (z0, z1, z2, z3, z4, z5, z6)
  | _, _ => none
set_option maxRecDepth 100000 in
theorem parquetref09_Reduce.f_eq (N : Nat) (a1 : Int) (a2 : Int) (a3 : Int) :
    evFun (parquetref09_Reduce.E N) parquetref09_Reduce.body [.agg [.c (.int .i64 a1), .c (.int .i64 a2), .c (.int .i64 a3)]] [] parquetref09_Reduce.dec = parquetref09_Reduce.f N a1 a2 a3 := by kernel_rfl
noncomputable def parquetref09_Reduce.ent (N : Nat) : Entry := { A := Int × Int × Int × Int × Int × Int × Int, fresh := 0, imm := [true], dec := fun args bs => match freezeL 0 (fun _ => .dead) [.recd [.any, .any, .any]] args, bs with
  | some [.agg [.c (.int .i64 a1), .c (.int .i64 a2), .c (.int .i64 a3)]], [] => some (parquetref09_Reduce.f N a1 a2 a3, fun r => .one (.tup [.agg [.c (.int .i64 r.1), .c (.int .i64 r.2.1), .c (.int .i64 r.2.2.1)], .agg [.c (.int .i64 r.2.2.2.1), .c (.int .i64 r.2.2.2.2.1), .c (.int .i64 r.2.2.2.2.2.1), .c (.int .i64 r.2.2.2.2.2.2)]]) [])
  | _, _ => none }
theorem parquetref09_Reduce.env (N : Nat) : EnvOK Try.prog (parquetref09_Reduce.E N) := ⟨(TyOK.cons ty2_ok (TyOK.cons ty23_ok (TyOK.cons ty35_ok TyOK.nil))), (TabOK.cons (parquetref09_Reduced.ent_ok N) (TabOK.cons (parquetref09_Next.ent_ok N) (TabOK.cons (parquetref09_Times.ent_ok N) TabOK.nil)))⟩
theorem parquetref09_Reduce.res_eq (N : Nat) : (parquetref09_Reduce.E N).res = Try.f22.results.toList := by kernel_rfl
theorem parquetref09_Reduce.k2 (N : Nat) : CutOK Try.prog Try.f22 (parquetref09_Reduce.E N) (.loop parquetref09_Reduce.b2) := by
  intro e hd he hh R vs H k r h
  have e1 : (parquetref09_Reduce.E N).cut (loopKey parquetref09_Reduce.b2) = some (parquetref09_Reduce.c2 N) := by kernel_rfl
  have e2 : (parquetref09_Reduce.E N).hint (loopKey parquetref09_Reduce.b2) = some parquetref09_Reduce.h2 := by kernel_rfl
  rw [e1] at he; rw [e2] at hh; cases he; cases hh
  unfold parquetref09_Reduce.c2 at h; dsimp only at h
  split at h
  · rw [← parquetref09_Reduce.l2_eq] at h
    exact loop_ok (evCode_ok (parquetref09_Reduce.env N) Try_mixed (parquetref09_Reduce.res_eq N) 396 parquetref09_Reduce.b2 (AllCut.of (l := []) (by kernel_rfl) AllCut.nil)) h
  · cases h
theorem parquetref09_Reduce.spec (N : Nat) (a1 : Int) (a2 : Int) (a3 : Int) (r : Int × Int × Int × Int × Int × Int × Int) (h : parquetref09_Reduce.f N a1 a2 a3 = some r) : FnSpec Try.prog 22 [.agg [.c (.int .i64 a1), .c (.int .i64 a2), .c (.int .i64 a3)]] [] (.tup [.agg [.c (.int .i64 r.1), .c (.int .i64 r.2.1), .c (.int .i64 r.2.2.1)], .agg [.c (.int .i64 r.2.2.2.1), .c (.int .i64 r.2.2.2.2.1), .c (.int .i64 r.2.2.2.2.2.1), .c (.int .i64 r.2.2.2.2.2.2)]]) ([]) := by
  rw [← parquetref09_Reduce.f_eq] at h
  refine (evFun_ok (parquetref09_Reduce.env N) Try_mixed Try.func22 (by kernel_rfl : Try.f22.body = some parquetref09_Reduce.body) (by kernel_rfl) (parquetref09_Reduce.res_eq N) (by kernel_rfl) (by kernel_rfl) (Nat.le_of_ble_eq_true (by kernel_rfl)) (AllCut.of (l := [(.loop (inner ((subLoops parquetref09_Reduce.body).getD 0 .skip)))]) (by kernel_rfl) (AllCut.cons (parquetref09_Reduce.k2 N) AllCut.nil)) h).of fun v bs' h1 => ?_
  unfold parquetref09_Reduce.dec at h1; split at h1
  · cases h1; exact ⟨rfl, rfl⟩
  · cases h1
theorem parquetref09_Reduce.ent_ok (N : Nat) : TabOK1 Try.prog 22 (parquetref09_Reduce.ent N) := by
  intro args bs a enc h
  simp only [parquetref09_Reduce.ent] at h
  split at h
  · rename_i hz; have h0 := Option.some.inj h; have h1 := congrArg Prod.fst h0; have h2 := congrArg Prod.snd h0; dsimp only at h1 h2; subst h2; exact FnSpec.of_freeze hz (parquetref09_Reduce.spec N _ _ _ a h1)
  · cases h
/-! parquet/parquetref09.round: function 37 -/
noncomputable def parquetref09_round.l3 {R : Type} (N : Nat) : Nat → Int → Int → Int → List Int → Int → Int → Int → (List Int → Option R) → (List Int → Bool → Option R) → Option R
  | 0, _, _, _, _, _, _, _, _, _ => none
  | n + 1, x5, x6, x7, x8, x9, x10, x11, k0, kr =>
    bif !((x9 == x5) && ((x10 == x6) && (x11 == x7))) then
      bif (x8.length / 3 : Int) == 4096 then
        kr x8 false
      else
      bif roomy ((x8.length + 3) / 3) 24 then
        (parquetref09_Next.f N x9 x10 x11).bind fun r14 =>
        parquetref09_round.l3 N n x5 x6 x7 (x8 ++ [x9, x10, x11]) r14.1 r14.2.1 r14.2.2.1 k0 kr
      else none
    else
    k0 x8
noncomputable def parquetref09_round.f (N : Nat) (a1 : Int) (a2 : Int) (a3 : Int) : Option (List Int × Bool) :=
  (parquetref09_Next.f N a1 a2 a3).bind fun r4 =>
  parquetref09_round.l3 N N a1 a2 a3 [a1, a2, a3] r4.1 r4.2.1 r4.2.2.1
    (fun y16 =>
      some (y16, true))
    (fun y17 y18 =>
      some (y17, y18))
noncomputable def parquetref09_round.body : Code := (Try.f37.body).getD .skip
noncomputable def parquetref09_round.ty : List (Nat × TI) := [(2, ty2), (23, ty23), (24, ty24), (35, ty35)]
noncomputable def parquetref09_round.h3 : Hint := ⟨[(1, .box [.any, .any, .any]), (4, .row .i64 3), (5, .box [.any, .any, .any])], [(4, .row .i64 3)]⟩
noncomputable def parquetref09_round.c3 (N : Nat) : Cut := ⟨fun vs H k => match vs, H with
  | [.ptr 0 0 3, .sw 1 3, .ptr 2 0 3], [.vals [.c (.int .i64 x5), .c (.int .i64 x6), .c (.int .i64 x7)], .ints .i64 x8, .vals [.c (.int .i64 x9), .c (.int .i64 x10), .c (.int .i64 x11)]] => parquetref09_round.l3 N N x5 x6 x7 x8 x9 x10 x11 (fun x15 => k (.exit 0) ⟨mkT parquetref09_round.h3.out [.sw 0 3], [.ints .i64 x15]⟩) (fun x12 x13 => k (.ret (.tup [.il .i64 3 x12, .c (.bool x13)]) []) .nil)
  | _, _ => none⟩
noncomputable def parquetref09_round.E (N : Nat) : Env := { ty := lookN parquetref09_round.ty, tab := lookN [(21, parquetref09_Next.ent N)], hint := lookN [(3, parquetref09_round.h3)], cut := lookN [(3, parquetref09_round.c3 N)], N := N, res := [.tmp 2, .tmp 3], rsh := [.il .i64 3, .any], nb := 0, ntmps := 31, own := false }
noncomputable def parquetref09_round.b3 : Code := inner ((subLoops parquetref09_round.body).getD 0 .skip)
set_option maxRecDepth 100000 in
theorem parquetref09_round.l3_eq {R : Type} (N n : Nat) (x5 : Int) (x6 : Int) (x7 : Int) (x8 : List Int) (x9 : Int) (x10 : Int) (x11 : Int) (k : Ex → St → Option R) :
    evLoop 0 parquetref09_round.h3 (fun s k => evCode (parquetref09_round.E N) 394 parquetref09_round.b3 s k) n [.ptr 0 0 3, .sw 1 3, .ptr 2 0 3] [.vals [.c (.int .i64 x5), .c (.int .i64 x6), .c (.int .i64 x7)], .ints .i64 x8, .vals [.c (.int .i64 x9), .c (.int .i64 x10), .c (.int .i64 x11)]] k = parquetref09_round.l3 N n x5 x6 x7 x8 x9 x10 x11 (fun x15 => k (.exit 0) ⟨mkT parquetref09_round.h3.out [.sw 0 3], [.ints .i64 x15]⟩) (fun x12 x13 => k (.ret (.tup [.il .i64 3 x12, .c (.bool x13)]) []) .nil) := by
  induction n generalizing x5 x6 x7 x8 x9 x10 x11 with
  | zero => kernel_rfl
  | succ n ih =>
    simp only [parquetref09_round.l3, ← ih]
    kernel_rfl
noncomputable def parquetref09_round.dec (v : V) (bs : List Blk) : Option (List Int × Bool) := match v, bs with
  | .tup [.il .i64 3 z0, .c (.bool z1)], [] => some (z0, z1)
  | _, _ => none
set_option maxRecDepth 100000 in
theorem parquetref09_round.f_eq (N : Nat) (a1 : Int) (a2 : Int) (a3 : Int) :
    evFun (parquetref09_round.E N) parquetref09_round.body [.agg [.c (.int .i64 a1), .c (.int .i64 a2), .c (.int .i64 a3)]] [] parquetref09_round.dec = parquetref09_round.f N a1 a2 a3 := by kernel_rfl
noncomputable def parquetref09_round.ent (N : Nat) : Entry := { A := List Int × Bool, fresh := 0, imm := [true], dec := fun args bs => match freezeL 0 (fun _ => .dead) [.recd [.any, .any, .any]] args, bs with
  | some [.agg [.c (.int .i64 a1), .c (.int .i64 a2), .c (.int .i64 a3)]], [] => some (parquetref09_round.f N a1 a2 a3, fun r => .one (.tup [.il .i64 3 r.1, .c (.bool r.2)]) [])
  | _, _ => none }
theorem parquetref09_round.env (N : Nat) : EnvOK Try.prog (parquetref09_round.E N) := ⟨(TyOK.cons ty2_ok (TyOK.cons ty23_ok (TyOK.cons ty24_ok (TyOK.cons ty35_ok TyOK.nil)))), (TabOK.cons (parquetref09_Next.ent_ok N) TabOK.nil)⟩
theorem parquetref09_round.res_eq (N : Nat) : (parquetref09_round.E N).res = Try.f37.results.toList := by kernel_rfl
theorem parquetref09_round.k3 (N : Nat) : CutOK Try.prog Try.f37 (parquetref09_round.E N) (.loop parquetref09_round.b3) := by
  intro e hd he hh R vs H k r h
  have e1 : (parquetref09_round.E N).cut (loopKey parquetref09_round.b3) = some (parquetref09_round.c3 N) := by kernel_rfl
  have e2 : (parquetref09_round.E N).hint (loopKey parquetref09_round.b3) = some parquetref09_round.h3 := by kernel_rfl
  rw [e1] at he; rw [e2] at hh; cases he; cases hh
  unfold parquetref09_round.c3 at h; dsimp only at h
  split at h
  · rw [← parquetref09_round.l3_eq] at h
    exact loop_ok (evCode_ok (parquetref09_round.env N) Try_mixed (parquetref09_round.res_eq N) 394 parquetref09_round.b3 (AllCut.of (l := []) (by kernel_rfl) AllCut.nil)) h
  · cases h
theorem parquetref09_round.spec (N : Nat) (a1 : Int) (a2 : Int) (a3 : Int) (r : List Int × Bool) (h : parquetref09_round.f N a1 a2 a3 = some r) : FnSpec Try.prog 37 [.agg [.c (.int .i64 a1), .c (.int .i64 a2), .c (.int .i64 a3)]] [] (.tup [.il .i64 3 r.1, .c (.bool r.2)]) ([]) := by
  rw [← parquetref09_round.f_eq] at h
  refine (evFun_ok (parquetref09_round.env N) Try_mixed Try.func37 (by kernel_rfl : Try.f37.body = some parquetref09_round.body) (by kernel_rfl) (parquetref09_round.res_eq N) (by kernel_rfl) (by kernel_rfl) (Nat.le_of_ble_eq_true (by kernel_rfl)) (AllCut.of (l := [(.loop (inner ((subLoops parquetref09_round.body).getD 0 .skip)))]) (by kernel_rfl) (AllCut.cons (parquetref09_round.k3 N) AllCut.nil)) h).of fun v bs' h1 => ?_
  unfold parquetref09_round.dec at h1; split at h1
  · cases h1; exact ⟨rfl, rfl⟩
  · cases h1
theorem parquetref09_round.ent_ok (N : Nat) : TabOK1 Try.prog 37 (parquetref09_round.ent N) := by
  intro args bs a enc h
  simp only [parquetref09_round.ent] at h
  split at h
  · rename_i hz; have h0 := Option.some.inj h; have h1 := congrArg Prod.fst h0; have h2 := congrArg Prod.snd h0; dsimp only at h1 h2; subst h2; exact FnSpec.of_freeze hz (parquetref09_round.spec N _ _ _ a h1)
  · cases h
/-! parquet/parquetref09.Cycle: function 13 -/
noncomputable def parquetref09_Cycle.f (N : Nat) (a1 : Int) (a2 : Int) (a3 : Int) : Option (List Int × Int) :=
  (parquetref09_Reduce.f N a1 a2 a3).bind fun r4 =>
  (parquetref09_round.f N r4.1 r4.2.1 r4.2.2.1).bind fun r5 =>
  bif !r5.2 then
    some ([], 9)
  else
  some (r5.1, 0)
noncomputable def parquetref09_Cycle.body : Code := (Try.f13.body).getD .skip
noncomputable def parquetref09_Cycle.ty : List (Nat × TI) := [(23, ty23), (35, ty35)]
noncomputable def parquetref09_Cycle.E (N : Nat) : Env := { ty := lookN parquetref09_Cycle.ty, tab := lookN [(22, parquetref09_Reduce.ent N), (37, parquetref09_round.ent N)], hint := lookN [], cut := lookN [], N := N, res := [.tmp 2, .tmp 3], rsh := [.il .i64 3, .any], nb := 0, ntmps := 21, own := false }
noncomputable def parquetref09_Cycle.dec (v : V) (bs : List Blk) : Option (List Int × Int) := match v, bs with
  | .tup [.il .i64 3 z0, .c (.int .i64 z1)], [] => some (z0, z1)
  | _, _ => none
set_option maxRecDepth 100000 in
theorem parquetref09_Cycle.f_eq (N : Nat) (a1 : Int) (a2 : Int) (a3 : Int) :
    evFun (parquetref09_Cycle.E N) parquetref09_Cycle.body [.agg [.c (.int .i64 a1), .c (.int .i64 a2), .c (.int .i64 a3)]] [] parquetref09_Cycle.dec = parquetref09_Cycle.f N a1 a2 a3 := by kernel_rfl
noncomputable def parquetref09_Cycle.ent (N : Nat) : Entry := { A := List Int × Int, fresh := 0, imm := [true], dec := fun args bs => match freezeL 0 (fun _ => .dead) [.recd [.any, .any, .any]] args, bs with
  | some [.agg [.c (.int .i64 a1), .c (.int .i64 a2), .c (.int .i64 a3)]], [] => some (parquetref09_Cycle.f N a1 a2 a3, fun r => .one (.tup [.il .i64 3 r.1, .c (.int .i64 r.2)]) [])
  | _, _ => none }
theorem parquetref09_Cycle.env (N : Nat) : EnvOK Try.prog (parquetref09_Cycle.E N) := ⟨(TyOK.cons ty23_ok (TyOK.cons ty35_ok TyOK.nil)), (TabOK.cons (parquetref09_Reduce.ent_ok N) (TabOK.cons (parquetref09_round.ent_ok N) TabOK.nil))⟩
theorem parquetref09_Cycle.res_eq (N : Nat) : (parquetref09_Cycle.E N).res = Try.f13.results.toList := by kernel_rfl
theorem parquetref09_Cycle.spec (N : Nat) (a1 : Int) (a2 : Int) (a3 : Int) (r : List Int × Int) (h : parquetref09_Cycle.f N a1 a2 a3 = some r) : FnSpec Try.prog 13 [.agg [.c (.int .i64 a1), .c (.int .i64 a2), .c (.int .i64 a3)]] [] (.tup [.il .i64 3 r.1, .c (.int .i64 r.2)]) ([]) := by
  rw [← parquetref09_Cycle.f_eq] at h
  refine (evFun_ok (parquetref09_Cycle.env N) Try_mixed Try.func13 (by kernel_rfl : Try.f13.body = some parquetref09_Cycle.body) (by kernel_rfl) (parquetref09_Cycle.res_eq N) (by kernel_rfl) (by kernel_rfl) (Nat.le_of_ble_eq_true (by kernel_rfl)) (AllCut.of (l := []) (by kernel_rfl) AllCut.nil) h).of fun v bs' h1 => ?_
  unfold parquetref09_Cycle.dec at h1; split at h1
  · cases h1; exact ⟨rfl, rfl⟩
  · cases h1
theorem parquetref09_Cycle.ent_ok (N : Nat) : TabOK1 Try.prog 13 (parquetref09_Cycle.ent N) := by
  intro args bs a enc h
  simp only [parquetref09_Cycle.ent] at h
  split at h
  · rename_i hz; have h0 := Option.some.inj h; have h1 := congrArg Prod.fst h0; have h2 := congrArg Prod.snd h0; dsimp only at h1 h2; subst h2; exact FnSpec.of_freeze hz (parquetref09_Cycle.spec N _ _ _ a h1)
  · cases h
/-! parquet/parquetref09.Proper: function 14 -/
noncomputable def parquetref09_Proper.l7 {R : Type} (N : Nat) : Nat → List Int → Bool → Int → Int → Int → Int → (Bool → Option R) → (Bool → Int → Option R) → Option R
  | 0, _, _, _, _, _, _, _, _ => none
  | n + 1, x10, x11, x12, x13, x14, x15, k0, kr =>
    bif decide (x12 < (x10.length / 3 : Int)) then
      bif (decide (0 ≤ x12)) && (decide (x12 < (x10.length / 3 : Int))) then
        bif ((x10.getD (x12.toNat * 3) 0) == x13) && (((x10.getD ((x12.toNat * 3) + 1) 0) == x14) && ((x10.getD ((x12.toNat * 3) + 2) 0) == x15)) then
          kr true 0
        else
        parquetref09_Proper.l7 N n x10 x11 (wi64 (x12 + 1)) x13 x14 x15 k0 kr
      else none
    else
    k0 x11
noncomputable def parquetref09_Proper.f (N : Nat) (a1 : Int) (a2 : Int) (a3 : Int) (a4 : Int) (a5 : Int) (a6 : Int) : Option (Bool × Int) :=
  bif (wi64 ((wi64 (a2 * a2)) - (wi64 ((wi64 (4 * a1)) * a3)))) != (wi64 ((wi64 (a5 * a5)) - (wi64 ((wi64 (4 * a4)) * a6)))) then
    some (false, 0)
  else
  (parquetref09_Reduce.f N a1 a2 a3).bind fun r7 =>
  (parquetref09_Reduce.f N a4 a5 a6).bind fun r8 =>
  (parquetref09_round.f N r7.1 r7.2.1 r7.2.2.1).bind fun r9 =>
  parquetref09_Proper.l7 N N r9.1 r9.2 0 r8.1 r8.2.1 r8.2.2.1
    (fun y19 =>
      bif !y19 then
        some (false, 9)
      else
      some (false, 0))
    (fun y20 y21 =>
      some (y20, y21))
noncomputable def parquetref09_Proper.body : Code := (Try.f14.body).getD .skip
noncomputable def parquetref09_Proper.ty : List (Nat × TI) := [(2, ty2), (23, ty23), (24, ty24), (35, ty35)]
noncomputable def parquetref09_Proper.h7 : Hint := ⟨[(8, .box [.any, .any, .any]), (10, .il .i64 3), (11, .any), (12, .any)], [(11, .any)]⟩
noncomputable def parquetref09_Proper.c7 (N : Nat) : Cut := ⟨fun vs H k => match vs, H with
  | [.ptr 0 0 3, .il .i64 3 x10, .c (.bool x11), .c (.int .i64 x12)], [.vals [.c (.int .i64 x13), .c (.int .i64 x14), .c (.int .i64 x15)]] => parquetref09_Proper.l7 N N x10 x11 x12 x13 x14 x15 (fun x18 => k (.exit 0) ⟨mkT parquetref09_Proper.h7.out [.c (.bool x18)], []⟩) (fun x16 x17 => k (.ret (.tup [.c (.bool x16), .c (.int .i64 x17)]) []) .nil)
  | _, _ => none⟩
noncomputable def parquetref09_Proper.E (N : Nat) : Env := { ty := lookN parquetref09_Proper.ty, tab := lookN [(22, parquetref09_Reduce.ent N), (37, parquetref09_round.ent N)], hint := lookN [(7, parquetref09_Proper.h7)], cut := lookN [(7, parquetref09_Proper.c7 N)], N := N, res := [.tmp 4, .tmp 5], rsh := [.any, .any], nb := 0, ntmps := 67, own := false }
noncomputable def parquetref09_Proper.b7 : Code := inner ((subLoops parquetref09_Proper.body).getD 0 .skip)
set_option maxRecDepth 100000 in
theorem parquetref09_Proper.l7_eq {R : Type} (N n : Nat) (x10 : List Int) (x11 : Bool) (x12 : Int) (x13 : Int) (x14 : Int) (x15 : Int) (k : Ex → St → Option R) :
    evLoop 0 parquetref09_Proper.h7 (fun s k => evCode (parquetref09_Proper.E N) 391 parquetref09_Proper.b7 s k) n [.ptr 0 0 3, .il .i64 3 x10, .c (.bool x11), .c (.int .i64 x12)] [.vals [.c (.int .i64 x13), .c (.int .i64 x14), .c (.int .i64 x15)]] k = parquetref09_Proper.l7 N n x10 x11 x12 x13 x14 x15 (fun x18 => k (.exit 0) ⟨mkT parquetref09_Proper.h7.out [.c (.bool x18)], []⟩) (fun x16 x17 => k (.ret (.tup [.c (.bool x16), .c (.int .i64 x17)]) []) .nil) := by
  induction n generalizing x10 x11 x12 x13 x14 x15 with
  | zero => kernel_rfl
  | succ n ih =>
    simp only [parquetref09_Proper.l7, ← ih]
    kernel_rfl
noncomputable def parquetref09_Proper.dec (v : V) (bs : List Blk) : Option (Bool × Int) := match v, bs with
  | .tup [.c (.bool z0), .c (.int .i64 z1)], [] => some (z0, z1)
  | _, _ => none
set_option maxRecDepth 100000 in
theorem parquetref09_Proper.f_eq (N : Nat) (a1 : Int) (a2 : Int) (a3 : Int) (a4 : Int) (a5 : Int) (a6 : Int) :
    evFun (parquetref09_Proper.E N) parquetref09_Proper.body [.agg [.c (.int .i64 a1), .c (.int .i64 a2), .c (.int .i64 a3)], .agg [.c (.int .i64 a4), .c (.int .i64 a5), .c (.int .i64 a6)]] [] parquetref09_Proper.dec = parquetref09_Proper.f N a1 a2 a3 a4 a5 a6 := by kernel_rfl
noncomputable def parquetref09_Proper.ent (N : Nat) : Entry := { A := Bool × Int, fresh := 0, imm := [true, true], dec := fun args bs => match freezeL 0 (fun _ => .dead) [.recd [.any, .any, .any], .recd [.any, .any, .any]] args, bs with
  | some [.agg [.c (.int .i64 a1), .c (.int .i64 a2), .c (.int .i64 a3)], .agg [.c (.int .i64 a4), .c (.int .i64 a5), .c (.int .i64 a6)]], [] => some (parquetref09_Proper.f N a1 a2 a3 a4 a5 a6, fun r => .one (.tup [.c (.bool r.1), .c (.int .i64 r.2)]) [])
  | _, _ => none }
theorem parquetref09_Proper.env (N : Nat) : EnvOK Try.prog (parquetref09_Proper.E N) := ⟨(TyOK.cons ty2_ok (TyOK.cons ty23_ok (TyOK.cons ty24_ok (TyOK.cons ty35_ok TyOK.nil)))), (TabOK.cons (parquetref09_Reduce.ent_ok N) (TabOK.cons (parquetref09_round.ent_ok N) TabOK.nil))⟩
theorem parquetref09_Proper.res_eq (N : Nat) : (parquetref09_Proper.E N).res = Try.f14.results.toList := by kernel_rfl
theorem parquetref09_Proper.k7 (N : Nat) : CutOK Try.prog Try.f14 (parquetref09_Proper.E N) (.loop parquetref09_Proper.b7) := by
  intro e hd he hh R vs H k r h
  have e1 : (parquetref09_Proper.E N).cut (loopKey parquetref09_Proper.b7) = some (parquetref09_Proper.c7 N) := by kernel_rfl
  have e2 : (parquetref09_Proper.E N).hint (loopKey parquetref09_Proper.b7) = some parquetref09_Proper.h7 := by kernel_rfl
  rw [e1] at he; rw [e2] at hh; cases he; cases hh
  unfold parquetref09_Proper.c7 at h; dsimp only at h
  split at h
  · rw [← parquetref09_Proper.l7_eq] at h
    exact loop_ok (evCode_ok (parquetref09_Proper.env N) Try_mixed (parquetref09_Proper.res_eq N) 391 parquetref09_Proper.b7 (AllCut.of (l := []) (by kernel_rfl) AllCut.nil)) h
  · cases h
theorem parquetref09_Proper.spec (N : Nat) (a1 : Int) (a2 : Int) (a3 : Int) (a4 : Int) (a5 : Int) (a6 : Int) (r : Bool × Int) (h : parquetref09_Proper.f N a1 a2 a3 a4 a5 a6 = some r) : FnSpec Try.prog 14 [.agg [.c (.int .i64 a1), .c (.int .i64 a2), .c (.int .i64 a3)], .agg [.c (.int .i64 a4), .c (.int .i64 a5), .c (.int .i64 a6)]] [] (.tup [.c (.bool r.1), .c (.int .i64 r.2)]) ([]) := by
  rw [← parquetref09_Proper.f_eq] at h
  refine (evFun_ok (parquetref09_Proper.env N) Try_mixed Try.func14 (by kernel_rfl : Try.f14.body = some parquetref09_Proper.body) (by kernel_rfl) (parquetref09_Proper.res_eq N) (by kernel_rfl) (by kernel_rfl) (Nat.le_of_ble_eq_true (by kernel_rfl)) (AllCut.of (l := [(.loop (inner ((subLoops parquetref09_Proper.body).getD 0 .skip)))]) (by kernel_rfl) (AllCut.cons (parquetref09_Proper.k7 N) AllCut.nil)) h).of fun v bs' h1 => ?_
  unfold parquetref09_Proper.dec at h1; split at h1
  · cases h1; exact ⟨rfl, rfl⟩
  · cases h1
theorem parquetref09_Proper.ent_ok (N : Nat) : TabOK1 Try.prog 14 (parquetref09_Proper.ent N) := by
  intro args bs a enc h
  simp only [parquetref09_Proper.ent] at h
  split at h
  · rename_i hz; have h0 := Option.some.inj h; have h1 := congrArg Prod.fst h0; have h2 := congrArg Prod.snd h0; dsimp only at h1 h2; subst h2; exact FnSpec.of_freeze hz (parquetref09_Proper.spec N _ _ _ _ _ _ a h1)
  · cases h
/-! parquet/parquetlaw09.same: function 15 -/
noncomputable def parquetlaw09_same.l4 {R : Type} (N : Nat) : Nat → List Int → List Int → Int → Int → (Unit → Option R) → (Bool → Option R) → Option R
  | 0, _, _, _, _, _, _ => none
  | n + 1, x3, x4, x5, x6, k0, kr =>
    bif decide (x6 < x5) then
      bif (decide (0 ≤ x6)) && (decide (x6 < (x3.length / 3 : Int))) then
        bif (decide (0 ≤ x6)) && (decide (x6 < (x4.length / 3 : Int))) then
          bif !(((x3.getD (x6.toNat * 3) 0) == (x4.getD (x6.toNat * 3) 0)) && (((x3.getD ((x6.toNat * 3) + 1) 0) == (x4.getD ((x6.toNat * 3) + 1) 0)) && ((x3.getD ((x6.toNat * 3) + 2) 0) == (x4.getD ((x6.toNat * 3) + 2) 0)))) then
            kr false
          else
          parquetlaw09_same.l4 N n x3 x4 x5 (wi64 (x6 + 1)) k0 kr
        else none
      else none
    else
    k0 ()
noncomputable def parquetlaw09_same.f (N : Nat) (a1 : List Int) (a2 : List Int) : Option (Bool) :=
  bif (a1.length / 3 : Int) != (a2.length / 3 : Int) then
    some false
  else
  parquetlaw09_same.l4 N N a1 a2 (a1.length / 3 : Int) 0
    (fun (_ : Unit) =>
      some true)
    (fun y8 =>
      some y8)
noncomputable def parquetlaw09_same.body : Code := (Try.f15.body).getD .skip
noncomputable def parquetlaw09_same.ty : List (Nat × TI) := [(2, ty2), (23, ty23), (24, ty24)]
noncomputable def parquetlaw09_same.h4 : Hint := ⟨[(0, .il .i64 3), (1, .il .i64 3), (12, .any), (13, .any)], []⟩
noncomputable def parquetlaw09_same.c4 (N : Nat) : Cut := ⟨fun vs H k => match vs, H with
  | [.il .i64 3 x3, .il .i64 3 x4, .c (.int .i64 x5), .c (.int .i64 x6)], [] => parquetlaw09_same.l4 N N x3 x4 x5 x6 (fun (_ : Unit) => k (.exit 0) ⟨mkT parquetlaw09_same.h4.out [], []⟩) (fun x7 => k (.ret (.c (.bool x7)) []) .nil)
  | _, _ => none⟩
noncomputable def parquetlaw09_same.E (N : Nat) : Env := { ty := lookN parquetlaw09_same.ty, tab := lookN [], hint := lookN [(4, parquetlaw09_same.h4)], cut := lookN [(4, parquetlaw09_same.c4 N)], N := N, res := [.tmp 4], rsh := [.any], nb := 0, ntmps := 26, own := false }
noncomputable def parquetlaw09_same.b4 : Code := inner ((subLoops parquetlaw09_same.body).getD 0 .skip)
set_option maxRecDepth 100000 in
theorem parquetlaw09_same.l4_eq {R : Type} (N n : Nat) (x3 : List Int) (x4 : List Int) (x5 : Int) (x6 : Int) (k : Ex → St → Option R) :
    evLoop 0 parquetlaw09_same.h4 (fun s k => evCode (parquetlaw09_same.E N) 394 parquetlaw09_same.b4 s k) n [.il .i64 3 x3, .il .i64 3 x4, .c (.int .i64 x5), .c (.int .i64 x6)] [] k = parquetlaw09_same.l4 N n x3 x4 x5 x6 (fun (_ : Unit) => k (.exit 0) ⟨mkT parquetlaw09_same.h4.out [], []⟩) (fun x7 => k (.ret (.c (.bool x7)) []) .nil) := by
  induction n generalizing x3 x4 x5 x6 with
  | zero => kernel_rfl
  | succ n ih =>
    simp only [parquetlaw09_same.l4, ← ih]
    kernel_rfl
noncomputable def parquetlaw09_same.dec (v : V) (bs : List Blk) : Option (Bool) := match v, bs with
  | .c (.bool z0), [] => some z0
  | _, _ => none
set_option maxRecDepth 100000 in
theorem parquetlaw09_same.f_eq (N : Nat) (a1 : List Int) (a2 : List Int) :
    evFun (parquetlaw09_same.E N) parquetlaw09_same.body [.il .i64 3 a1, .il .i64 3 a2] [] parquetlaw09_same.dec = parquetlaw09_same.f N a1 a2 := by kernel_rfl
noncomputable def parquetlaw09_same.ent (N : Nat) : Entry := { A := Bool, fresh := 0, imm := [true, true], dec := fun args bs => match freezeL 0 (fun _ => .dead) [.il .i64 3, .il .i64 3] args, bs with
  | some [.il .i64 3 a1, .il .i64 3 a2], [] => some (parquetlaw09_same.f N a1 a2, fun r => .one (.c (.bool r)) [])
  | _, _ => none }
theorem parquetlaw09_same.env (N : Nat) : EnvOK Try.prog (parquetlaw09_same.E N) := ⟨(TyOK.cons ty2_ok (TyOK.cons ty23_ok (TyOK.cons ty24_ok TyOK.nil))), TabOK.nil⟩
theorem parquetlaw09_same.res_eq (N : Nat) : (parquetlaw09_same.E N).res = Try.f15.results.toList := by kernel_rfl
theorem parquetlaw09_same.k4 (N : Nat) : CutOK Try.prog Try.f15 (parquetlaw09_same.E N) (.loop parquetlaw09_same.b4) := by
  intro e hd he hh R vs H k r h
  have e1 : (parquetlaw09_same.E N).cut (loopKey parquetlaw09_same.b4) = some (parquetlaw09_same.c4 N) := by kernel_rfl
  have e2 : (parquetlaw09_same.E N).hint (loopKey parquetlaw09_same.b4) = some parquetlaw09_same.h4 := by kernel_rfl
  rw [e1] at he; rw [e2] at hh; cases he; cases hh
  unfold parquetlaw09_same.c4 at h; dsimp only at h
  split at h
  · rw [← parquetlaw09_same.l4_eq] at h
    exact loop_ok (evCode_ok (parquetlaw09_same.env N) Try_mixed (parquetlaw09_same.res_eq N) 394 parquetlaw09_same.b4 (AllCut.of (l := []) (by kernel_rfl) AllCut.nil)) h
  · cases h
theorem parquetlaw09_same.spec (N : Nat) (a1 : List Int) (a2 : List Int) (r : Bool) (h : parquetlaw09_same.f N a1 a2 = some r) : FnSpec Try.prog 15 [.il .i64 3 a1, .il .i64 3 a2] [] (.c (.bool r)) ([]) := by
  rw [← parquetlaw09_same.f_eq] at h
  refine (evFun_ok (parquetlaw09_same.env N) Try_mixed Try.func15 (by kernel_rfl : Try.f15.body = some parquetlaw09_same.body) (by kernel_rfl) (parquetlaw09_same.res_eq N) (by kernel_rfl) (by kernel_rfl) (Nat.le_of_ble_eq_true (by kernel_rfl)) (AllCut.of (l := [(.loop (inner ((subLoops parquetlaw09_same.body).getD 0 .skip)))]) (by kernel_rfl) (AllCut.cons (parquetlaw09_same.k4 N) AllCut.nil)) h).of fun v bs' h1 => ?_
  unfold parquetlaw09_same.dec at h1; split at h1
  · cases h1; exact ⟨rfl, rfl⟩
  · cases h1
theorem parquetlaw09_same.ent_ok (N : Nat) : TabOK1 Try.prog 15 (parquetlaw09_same.ent N) := by
  intro args bs a enc h
  simp only [parquetlaw09_same.ent] at h
  split at h
  · rename_i hz; have h0 := Option.some.inj h; have h1 := congrArg Prod.fst h0; have h2 := congrArg Prod.snd h0; dsimp only at h1 h2; subst h2; exact FnSpec.of_freeze hz (parquetlaw09_same.spec N _ _ a h1)
  · cases h
/-! parquet/parquetlaw09.works: function 16 -/
noncomputable def parquetlaw09_works.f (N : Nat) : Option (Bool) :=
  (cycle_Cycle.f N 1 0 (-3)).bind fun r1 =>
  (cycle_Proper.f N 1 0 (-3) (-1) 0 3).bind fun r2 =>
  (cycle_Next.f N 1 0 (-2)).bind fun r3 =>
  bif r1.2 == 0 then
    bif r2.2 == 0 then
      bif r3.2.2.2.2.2.2.2 == 0 then
        bif !r2.1 then
          bif (r3.1 == (-2)) && ((r3.2.1 == 0) && (r3.2.2.1 == 1)) then
            bif (r3.2.2.2.1 == 0) && ((r3.2.2.2.2.1 == (-1)) && ((r3.2.2.2.2.2.1 == 1) && (r3.2.2.2.2.2.2.1 == 0))) then
              bif (r1.1.length / 3 : Int) == 2 then
                bif decide (0 < (r1.1.length / 3 : Int)) then
                  bif ((r1.1.getD 0 0) == 1) && (((r1.1.getD 1 0) == 2) && ((r1.1.getD 2 0) == (-2))) then
                    bif decide (1 < (r1.1.length / 3 : Int)) then
                      some (((r1.1.getD 3 0) == (-2)) && (((r1.1.getD 4 0) == 2) && ((r1.1.getD 5 0) == 1)))
                    else none
                  else
                  some false
                else none
              else
              some false
            else
            some false
          else
          some false
        else
        some false
      else
      some false
    else
    some false
  else
  some false
noncomputable def parquetlaw09_works.body : Code := (Try.f16.body).getD .skip
noncomputable def parquetlaw09_works.ty : List (Nat × TI) := [(2, ty2), (23, ty23), (24, ty24), (35, ty35)]
noncomputable def parquetlaw09_works.E (N : Nat) : Env := { ty := lookN parquetlaw09_works.ty, tab := lookN [(10, cycle_Cycle.ent N), (11, cycle_Proper.ent N), (18, cycle_Next.ent N)], hint := lookN [], cut := lookN [], N := N, res := [.tmp 0], rsh := [.any], nb := 0, ntmps := 68, own := false }
noncomputable def parquetlaw09_works.dec (v : V) (bs : List Blk) : Option (Bool) := match v, bs with
  | .c (.bool z0), [] => some z0
  | _, _ => none
set_option maxRecDepth 100000 in
theorem parquetlaw09_works.f_eq (N : Nat) :
    evFun (parquetlaw09_works.E N) parquetlaw09_works.body [] [] parquetlaw09_works.dec = parquetlaw09_works.f N := by kernel_rfl
noncomputable def parquetlaw09_works.ent (N : Nat) : Entry := { A := Bool, fresh := 0, imm := [], dec := fun args bs => match freezeL 0 (fun _ => .dead) [] args, bs with
  | some [], [] => some (parquetlaw09_works.f N, fun r => .one (.c (.bool r)) [])
  | _, _ => none }
theorem parquetlaw09_works.env (N : Nat) : EnvOK Try.prog (parquetlaw09_works.E N) := ⟨(TyOK.cons ty2_ok (TyOK.cons ty23_ok (TyOK.cons ty24_ok (TyOK.cons ty35_ok TyOK.nil)))), (TabOK.cons (cycle_Cycle.ent_ok N) (TabOK.cons (cycle_Proper.ent_ok N) (TabOK.cons (cycle_Next.ent_ok N) TabOK.nil)))⟩
theorem parquetlaw09_works.res_eq (N : Nat) : (parquetlaw09_works.E N).res = Try.f16.results.toList := by kernel_rfl
theorem parquetlaw09_works.spec (N : Nat) (r : Bool) (h : parquetlaw09_works.f N = some r) : FnSpec Try.prog 16 [] [] (.c (.bool r)) ([]) := by
  rw [← parquetlaw09_works.f_eq] at h
  refine (evFun_ok (parquetlaw09_works.env N) Try_mixed Try.func16 (by kernel_rfl : Try.f16.body = some parquetlaw09_works.body) (by kernel_rfl) (parquetlaw09_works.res_eq N) (by kernel_rfl) (by kernel_rfl) (Nat.le_of_ble_eq_true (by kernel_rfl)) (AllCut.of (l := []) (by kernel_rfl) AllCut.nil) h).of fun v bs' h1 => ?_
  unfold parquetlaw09_works.dec at h1; split at h1
  · cases h1; exact ⟨rfl, rfl⟩
  · cases h1
theorem parquetlaw09_works.ent_ok (N : Nat) : TabOK1 Try.prog 16 (parquetlaw09_works.ent N) := by
  intro args bs a enc h
  simp only [parquetlaw09_works.ent] at h
  split at h
  · rename_i hz; have h0 := Option.some.inj h; have h1 := congrArg Prod.fst h0; have h2 := congrArg Prod.snd h0; dsimp only at h1 h2; subst h2; exact FnSpec.of_freeze hz (parquetlaw09_works.spec N a h1)
  · cases h
/-! parquet/parquetlaw09.CycleSteps: function 4 -/
noncomputable def parquetlaw09_CycleSteps.f (N : Nat) (a1 : Int) (a2 : Int) (a3 : Int) : Option (Bool) :=
  (cycle_Check.f N a1 a2 a3).bind fun r4 =>
  (parquetref09_Check.f N a1 a2 a3).bind fun r5 =>
  (cycle_Next.f N a1 a2 a3).bind fun r6 =>
  (cycle_Reduce.f N a1 a2 a3).bind fun r7 =>
  bif r4 != r5 then
    some false
  else
  bif r6.2.2.2.2.2.2.2 != r5 then
    some false
  else
  bif r7.2.2.2.2.2.2.2 != r5 then
    some false
  else
  (parquetlaw09_works.f N).bind fun r8 =>
  bif !r8 then
    some false
  else
  bif r5 != 0 then
    (cycle_Reduced.f N a1 a2 a3).bind fun r9 =>
    bif !r9 then
      bif (r6.1 == 0) && ((r6.2.1 == 0) && (r6.2.2.1 == 0)) then
        bif (r6.2.2.2.1 == 0) && ((r6.2.2.2.2.1 == 0) && ((r6.2.2.2.2.2.1 == 0) && (r6.2.2.2.2.2.2.1 == 0))) then
          bif (r7.1 == 0) && ((r7.2.1 == 0) && (r7.2.2.1 == 0)) then
            some ((r7.2.2.2.1 == 0) && ((r7.2.2.2.2.1 == 0) && ((r7.2.2.2.2.2.1 == 0) && (r7.2.2.2.2.2.2.1 == 0))))
          else
          some false
        else
        some false
      else
      some false
    else
    some false
  else
  (parquetref09_Next.f N a1 a2 a3).bind fun r10 =>
  (parquetref09_Reduce.f N a1 a2 a3).bind fun r11 =>
  bif (r6.1 == r10.1) && ((r6.2.1 == r10.2.1) && (r6.2.2.1 == r10.2.2.1)) then
    bif (r6.2.2.2.1 == r10.2.2.2.1) && ((r6.2.2.2.2.1 == r10.2.2.2.2.1) && ((r6.2.2.2.2.2.1 == r10.2.2.2.2.2.1) && (r6.2.2.2.2.2.2.1 == r10.2.2.2.2.2.2))) then
      bif (r7.1 == r11.1) && ((r7.2.1 == r11.2.1) && (r7.2.2.1 == r11.2.2.1)) then
        bif (r7.2.2.2.1 == r11.2.2.2.1) && ((r7.2.2.2.2.1 == r11.2.2.2.2.1) && ((r7.2.2.2.2.2.1 == r11.2.2.2.2.2.1) && (r7.2.2.2.2.2.2.1 == r11.2.2.2.2.2.2))) then
          (cycle_Reduced.f N a1 a2 a3).bind fun r12 =>
          (parquetref09_Reduced.f N a1 a2 a3).bind fun r13 =>
          some (r12 == r13)
        else
        some false
      else
      some false
    else
    some false
  else
  some false
noncomputable def parquetlaw09_CycleSteps.body : Code := (Try.f4.body).getD .skip
noncomputable def parquetlaw09_CycleSteps.ty : List (Nat × TI) := [(2, ty2), (4, ty4), (23, ty23), (35, ty35)]
noncomputable def parquetlaw09_CycleSteps.E (N : Nat) : Env := { ty := lookN parquetlaw09_CycleSteps.ty, tab := lookN [(17, cycle_Check.ent N), (12, parquetref09_Check.ent N), (18, cycle_Next.ent N), (19, cycle_Reduce.ent N), (16, parquetlaw09_works.ent N), (20, cycle_Reduced.ent N), (21, parquetref09_Next.ent N), (22, parquetref09_Reduce.ent N), (23, parquetref09_Reduced.ent N)], hint := lookN [], cut := lookN [], N := N, res := [.tmp 2], rsh := [.any], nb := 0, ntmps := 108, own := false }
noncomputable def parquetlaw09_CycleSteps.dec (v : V) (bs : List Blk) : Option (Bool) := match v, bs with
  | .c (.bool z0), [] => some z0
  | _, _ => none
set_option maxRecDepth 100000 in
theorem parquetlaw09_CycleSteps.f_eq (N : Nat) (a1 : Int) (a2 : Int) (a3 : Int) :
    evFun (parquetlaw09_CycleSteps.E N) parquetlaw09_CycleSteps.body [.agg [.c (.int .i64 a1), .c (.int .i64 a2), .c (.int .i64 a3)]] [] parquetlaw09_CycleSteps.dec = parquetlaw09_CycleSteps.f N a1 a2 a3 := by kernel_rfl
noncomputable def parquetlaw09_CycleSteps.ent (N : Nat) : Entry := { A := Bool, fresh := 0, imm := [true], dec := fun args bs => match freezeL 0 (fun _ => .dead) [.recd [.any, .any, .any]] args, bs with
  | some [.agg [.c (.int .i64 a1), .c (.int .i64 a2), .c (.int .i64 a3)]], [] => some (parquetlaw09_CycleSteps.f N a1 a2 a3, fun r => .one (.c (.bool r)) [])
  | _, _ => none }
theorem parquetlaw09_CycleSteps.env (N : Nat) : EnvOK Try.prog (parquetlaw09_CycleSteps.E N) := ⟨(TyOK.cons ty2_ok (TyOK.cons ty4_ok (TyOK.cons ty23_ok (TyOK.cons ty35_ok TyOK.nil)))), (TabOK.cons (cycle_Check.ent_ok N) (TabOK.cons (parquetref09_Check.ent_ok N) (TabOK.cons (cycle_Next.ent_ok N) (TabOK.cons (cycle_Reduce.ent_ok N) (TabOK.cons (parquetlaw09_works.ent_ok N) (TabOK.cons (cycle_Reduced.ent_ok N) (TabOK.cons (parquetref09_Next.ent_ok N) (TabOK.cons (parquetref09_Reduce.ent_ok N) (TabOK.cons (parquetref09_Reduced.ent_ok N) TabOK.nil)))))))))⟩
theorem parquetlaw09_CycleSteps.res_eq (N : Nat) : (parquetlaw09_CycleSteps.E N).res = Try.f4.results.toList := by kernel_rfl
theorem parquetlaw09_CycleSteps.spec (N : Nat) (a1 : Int) (a2 : Int) (a3 : Int) (r : Bool) (h : parquetlaw09_CycleSteps.f N a1 a2 a3 = some r) : FnSpec Try.prog 4 [.agg [.c (.int .i64 a1), .c (.int .i64 a2), .c (.int .i64 a3)]] [] (.c (.bool r)) ([]) := by
  rw [← parquetlaw09_CycleSteps.f_eq] at h
  refine (evFun_ok (parquetlaw09_CycleSteps.env N) Try_mixed Try.func4 (by kernel_rfl : Try.f4.body = some parquetlaw09_CycleSteps.body) (by kernel_rfl) (parquetlaw09_CycleSteps.res_eq N) (by kernel_rfl) (by kernel_rfl) (Nat.le_of_ble_eq_true (by kernel_rfl)) (AllCut.of (l := []) (by kernel_rfl) AllCut.nil) h).of fun v bs' h1 => ?_
  unfold parquetlaw09_CycleSteps.dec at h1; split at h1
  · cases h1; exact ⟨rfl, rfl⟩
  · cases h1
theorem parquetlaw09_CycleSteps.ent_ok (N : Nat) : TabOK1 Try.prog 4 (parquetlaw09_CycleSteps.ent N) := by
  intro args bs a enc h
  simp only [parquetlaw09_CycleSteps.ent] at h
  split at h
  · rename_i hz; have h0 := Option.some.inj h; have h1 := congrArg Prod.fst h0; have h2 := congrArg Prod.snd h0; dsimp only at h1 h2; subst h2; exact FnSpec.of_freeze hz (parquetlaw09_CycleSteps.spec N _ _ _ a h1)
  · cases h
/-! parquet/parquetlaw09.CycleRounds: function 3 -/
noncomputable def parquetlaw09_CycleRounds.l14 {R : Type} (N : Nat) : Nat → List Int → Int → Int → List Int → List Int → (List Int → List Int → Option R) → Option R
  | 0, _, _, _, _, _, _ => none
  | n + 1, x16, x17, x18, x19, x20, k0 =>
    bif decide (x18 < x17) then
      bif (decide (0 ≤ x18)) && (decide (x18 < (x19.length / 3 : Int))) then
        parquetlaw09_CycleRounds.l14 N n x16 x17 (wi64 (x18 + 1)) (((x19.set (x18.toNat * 3) 77).set ((x18.toNat * 3) + 1) 0).set ((x18.toNat * 3) + 2) 0) x20 k0
      else none
    else
    k0 x16 x20
noncomputable def parquetlaw09_CycleRounds.f (N : Nat) (a1 : Int) (a2 : Int) (a3 : Int) (a4 : Int) (a5 : Int) (a6 : Int) : Option (Bool) :=
  (cycle_Cycle.f N a1 a2 a3).bind fun r7 =>
  (cycle_Cycle.f N a1 a2 a3).bind fun r8 =>
  (cycle_Proper.f N a1 a2 a3 a4 a5 a6).bind fun r9 =>
  (parquetref09_Check.f N a1 a2 a3).bind fun r10 =>
  bif r10 == 0 then
    (parquetref09_Cycle.f N a1 a2 a3).bind fun r11 =>
    (parquetref09_Check.f N a4 a5 a6).bind fun r12 =>
    bif r12 == 0 then
      (parquetref09_Proper.f N a1 a2 a3 a4 a5 a6).bind fun r13 =>
      bif r7.2 != r11.2 then
        some false
      else
      bif r8.2 != r11.2 then
        some false
      else
      (parquetlaw09_same.f N r7.1 r11.1).bind fun r14 =>
      bif !r14 then
        some false
      else
      bif !(r9.1 == r13.1) then
        some false
      else
      bif r9.2 != r13.2 then
        some false
      else
      (parquetlaw09_works.f N).bind fun r15 =>
      bif !r15 then
        some false
      else
      parquetlaw09_CycleRounds.l14 N N r11.1 (r7.1.length / 3 : Int) 0 r7.1 r8.1
        (fun y23 y24 =>
          (parquetlaw09_same.f N y24 y23).bind fun r25 =>
          some r25)
    else
    bif r7.2 != r11.2 then
      some false
    else
    bif r8.2 != r11.2 then
      some false
    else
    (parquetlaw09_same.f N r7.1 r11.1).bind fun r26 =>
    bif !r26 then
      some false
    else
    bif !(r9.1 == false) then
      some false
    else
    bif r9.2 != r12 then
      some false
    else
    (parquetlaw09_works.f N).bind fun r27 =>
    bif !r27 then
      some false
    else
    parquetlaw09_CycleRounds.l14 N N r11.1 (r7.1.length / 3 : Int) 0 r7.1 r8.1
      (fun y28 y29 =>
        (parquetlaw09_same.f N y29 y28).bind fun r30 =>
        some r30)
  else
  bif r7.2 != r10 then
    some false
  else
  bif r8.2 != r10 then
    some false
  else
  (parquetlaw09_same.f N r7.1 []).bind fun r31 =>
  bif !r31 then
    some false
  else
  bif !(r9.1 == false) then
    some false
  else
  bif r9.2 != r10 then
    some false
  else
  (parquetlaw09_works.f N).bind fun r32 =>
  bif !r32 then
    some false
  else
  parquetlaw09_CycleRounds.l14 N N [] (r7.1.length / 3 : Int) 0 r7.1 r8.1
    (fun y33 y34 =>
      (parquetlaw09_same.f N y34 y33).bind fun r35 =>
      some r35)
noncomputable def parquetlaw09_CycleRounds.body : Code := (Try.f3.body).getD .skip
noncomputable def parquetlaw09_CycleRounds.ty : List (Nat × TI) := [(2, ty2), (4, ty4), (23, ty23), (24, ty24)]
noncomputable def parquetlaw09_CycleRounds.h14 : Hint := ⟨[(5, .row .i64 3), (7, .row .i64 3), (11, .il .i64 3), (81, .any), (82, .any)], [(7, .row .i64 3), (11, .il .i64 3)]⟩
noncomputable def parquetlaw09_CycleRounds.c14 (N : Nat) : Cut := ⟨fun vs H k => match vs, H with
  | [.sw 0 3, .sw 1 3, .il .i64 3 x16, .c (.int .i64 x17), .c (.int .i64 x18)], [.ints .i64 x19, .ints .i64 x20] => parquetlaw09_CycleRounds.l14 N N x16 x17 x18 x19 x20 (fun x21 x22 => k (.exit 0) ⟨mkT parquetlaw09_CycleRounds.h14.out [.sw 0 3, .il .i64 3 x21], [.ints .i64 x22]⟩)
  | _, _ => none⟩
noncomputable def parquetlaw09_CycleRounds.E (N : Nat) : Env := { ty := lookN parquetlaw09_CycleRounds.ty, tab := lookN [(10, cycle_Cycle.ent N), (11, cycle_Proper.ent N), (12, parquetref09_Check.ent N), (13, parquetref09_Cycle.ent N), (14, parquetref09_Proper.ent N), (15, parquetlaw09_same.ent N), (16, parquetlaw09_works.ent N)], hint := lookN [(14, parquetlaw09_CycleRounds.h14)], cut := lookN [(14, parquetlaw09_CycleRounds.c14 N)], N := N, res := [.tmp 4], rsh := [.any], nb := 0, ntmps := 93, own := false }
noncomputable def parquetlaw09_CycleRounds.b14 : Code := inner ((subLoops parquetlaw09_CycleRounds.body).getD 0 .skip)
set_option maxRecDepth 100000 in
theorem parquetlaw09_CycleRounds.l14_eq {R : Type} (N n : Nat) (x16 : List Int) (x17 : Int) (x18 : Int) (x19 : List Int) (x20 : List Int) (k : Ex → St → Option R) :
    evLoop 0 parquetlaw09_CycleRounds.h14 (fun s k => evCode (parquetlaw09_CycleRounds.E N) 388 parquetlaw09_CycleRounds.b14 s k) n [.sw 0 3, .sw 1 3, .il .i64 3 x16, .c (.int .i64 x17), .c (.int .i64 x18)] [.ints .i64 x19, .ints .i64 x20] k = parquetlaw09_CycleRounds.l14 N n x16 x17 x18 x19 x20 (fun x21 x22 => k (.exit 0) ⟨mkT parquetlaw09_CycleRounds.h14.out [.sw 0 3, .il .i64 3 x21], [.ints .i64 x22]⟩) := by
  induction n generalizing x16 x17 x18 x19 x20 with
  | zero => kernel_rfl
  | succ n ih =>
    simp only [parquetlaw09_CycleRounds.l14, ← ih]
    kernel_rfl
noncomputable def parquetlaw09_CycleRounds.dec (v : V) (bs : List Blk) : Option (Bool) := match v, bs with
  | .c (.bool z0), [] => some z0
  | _, _ => none
set_option maxRecDepth 100000 in
theorem parquetlaw09_CycleRounds.f_eq (N : Nat) (a1 : Int) (a2 : Int) (a3 : Int) (a4 : Int) (a5 : Int) (a6 : Int) :
    evFun (parquetlaw09_CycleRounds.E N) parquetlaw09_CycleRounds.body [.agg [.c (.int .i64 a1), .c (.int .i64 a2), .c (.int .i64 a3)], .agg [.c (.int .i64 a4), .c (.int .i64 a5), .c (.int .i64 a6)]] [] parquetlaw09_CycleRounds.dec = parquetlaw09_CycleRounds.f N a1 a2 a3 a4 a5 a6 := by kernel_rfl
noncomputable def parquetlaw09_CycleRounds.ent (N : Nat) : Entry := { A := Bool, fresh := 0, imm := [true, true], dec := fun args bs => match freezeL 0 (fun _ => .dead) [.recd [.any, .any, .any], .recd [.any, .any, .any]] args, bs with
  | some [.agg [.c (.int .i64 a1), .c (.int .i64 a2), .c (.int .i64 a3)], .agg [.c (.int .i64 a4), .c (.int .i64 a5), .c (.int .i64 a6)]], [] => some (parquetlaw09_CycleRounds.f N a1 a2 a3 a4 a5 a6, fun r => .one (.c (.bool r)) [])
  | _, _ => none }
theorem parquetlaw09_CycleRounds.env (N : Nat) : EnvOK Try.prog (parquetlaw09_CycleRounds.E N) := ⟨(TyOK.cons ty2_ok (TyOK.cons ty4_ok (TyOK.cons ty23_ok (TyOK.cons ty24_ok TyOK.nil)))), (TabOK.cons (cycle_Cycle.ent_ok N) (TabOK.cons (cycle_Proper.ent_ok N) (TabOK.cons (parquetref09_Check.ent_ok N) (TabOK.cons (parquetref09_Cycle.ent_ok N) (TabOK.cons (parquetref09_Proper.ent_ok N) (TabOK.cons (parquetlaw09_same.ent_ok N) (TabOK.cons (parquetlaw09_works.ent_ok N) TabOK.nil)))))))⟩
theorem parquetlaw09_CycleRounds.res_eq (N : Nat) : (parquetlaw09_CycleRounds.E N).res = Try.f3.results.toList := by kernel_rfl
theorem parquetlaw09_CycleRounds.k14 (N : Nat) : CutOK Try.prog Try.f3 (parquetlaw09_CycleRounds.E N) (.loop parquetlaw09_CycleRounds.b14) := by
  intro e hd he hh R vs H k r h
  have e1 : (parquetlaw09_CycleRounds.E N).cut (loopKey parquetlaw09_CycleRounds.b14) = some (parquetlaw09_CycleRounds.c14 N) := by kernel_rfl
  have e2 : (parquetlaw09_CycleRounds.E N).hint (loopKey parquetlaw09_CycleRounds.b14) = some parquetlaw09_CycleRounds.h14 := by kernel_rfl
  rw [e1] at he; rw [e2] at hh; cases he; cases hh
  unfold parquetlaw09_CycleRounds.c14 at h; dsimp only at h
  split at h
  · rw [← parquetlaw09_CycleRounds.l14_eq] at h
    exact loop_ok (evCode_ok (parquetlaw09_CycleRounds.env N) Try_mixed (parquetlaw09_CycleRounds.res_eq N) 388 parquetlaw09_CycleRounds.b14 (AllCut.of (l := []) (by kernel_rfl) AllCut.nil)) h
  · cases h
theorem parquetlaw09_CycleRounds.spec (N : Nat) (a1 : Int) (a2 : Int) (a3 : Int) (a4 : Int) (a5 : Int) (a6 : Int) (r : Bool) (h : parquetlaw09_CycleRounds.f N a1 a2 a3 a4 a5 a6 = some r) : FnSpec Try.prog 3 [.agg [.c (.int .i64 a1), .c (.int .i64 a2), .c (.int .i64 a3)], .agg [.c (.int .i64 a4), .c (.int .i64 a5), .c (.int .i64 a6)]] [] (.c (.bool r)) ([]) := by
  rw [← parquetlaw09_CycleRounds.f_eq] at h
  refine (evFun_ok (parquetlaw09_CycleRounds.env N) Try_mixed Try.func3 (by kernel_rfl : Try.f3.body = some parquetlaw09_CycleRounds.body) (by kernel_rfl) (parquetlaw09_CycleRounds.res_eq N) (by kernel_rfl) (by kernel_rfl) (Nat.le_of_ble_eq_true (by kernel_rfl)) (AllCut.of (l := [(.loop (inner ((subLoops parquetlaw09_CycleRounds.body).getD 0 .skip)))]) (by kernel_rfl) (AllCut.cons (parquetlaw09_CycleRounds.k14 N) AllCut.nil)) h).of fun v bs' h1 => ?_
  unfold parquetlaw09_CycleRounds.dec at h1; split at h1
  · cases h1; exact ⟨rfl, rfl⟩
  · cases h1
theorem parquetlaw09_CycleRounds.ent_ok (N : Nat) : TabOK1 Try.prog 3 (parquetlaw09_CycleRounds.ent N) := by
  intro args bs a enc h
  simp only [parquetlaw09_CycleRounds.ent] at h
  split at h
  · rename_i hz; have h0 := Option.some.inj h; have h1 := congrArg Prod.fst h0; have h2 := congrArg Prod.snd h0; dsimp only at h1 h2; subst h2; exact FnSpec.of_freeze hz (parquetlaw09_CycleRounds.spec N _ _ _ _ _ _ a h1)
  · cases h
/-! parquet/parquetlaw09.disc: function 24 -/
noncomputable def parquetlaw09_disc.f (N : Nat) (a1 : Int) (a2 : Int) (a3 : Int) : Option (Int) :=
  some (wi64 ((wi64 (a2 * a2)) - (wi64 ((wi64 (4 * a1)) * a3))))
noncomputable def parquetlaw09_disc.body : Code := (Try.f24.body).getD .skip
noncomputable def parquetlaw09_disc.ty : List (Nat × TI) := [(2, ty2), (23, ty23)]
noncomputable def parquetlaw09_disc.E (N : Nat) : Env := { ty := lookN parquetlaw09_disc.ty, tab := lookN [], hint := lookN [], cut := lookN [], N := N, res := [.tmp 2], rsh := [.any], nb := 0, ntmps := 15, own := false }
noncomputable def parquetlaw09_disc.dec (v : V) (bs : List Blk) : Option (Int) := match v, bs with
  | .c (.int .i64 z0), [] => some z0
  | _, _ => none
set_option maxRecDepth 100000 in
theorem parquetlaw09_disc.f_eq (N : Nat) (a1 : Int) (a2 : Int) (a3 : Int) :
    evFun (parquetlaw09_disc.E N) parquetlaw09_disc.body [.agg [.c (.int .i64 a1), .c (.int .i64 a2), .c (.int .i64 a3)]] [] parquetlaw09_disc.dec = parquetlaw09_disc.f N a1 a2 a3 := by kernel_rfl
noncomputable def parquetlaw09_disc.ent (N : Nat) : Entry := { A := Int, fresh := 0, imm := [true], dec := fun args bs => match freezeL 0 (fun _ => .dead) [.recd [.any, .any, .any]] args, bs with
  | some [.agg [.c (.int .i64 a1), .c (.int .i64 a2), .c (.int .i64 a3)]], [] => some (parquetlaw09_disc.f N a1 a2 a3, fun r => .one (.c (.int .i64 r)) [])
  | _, _ => none }
theorem parquetlaw09_disc.env (N : Nat) : EnvOK Try.prog (parquetlaw09_disc.E N) := ⟨(TyOK.cons ty2_ok (TyOK.cons ty23_ok TyOK.nil)), TabOK.nil⟩
theorem parquetlaw09_disc.res_eq (N : Nat) : (parquetlaw09_disc.E N).res = Try.f24.results.toList := by kernel_rfl
theorem parquetlaw09_disc.spec (N : Nat) (a1 : Int) (a2 : Int) (a3 : Int) (r : Int) (h : parquetlaw09_disc.f N a1 a2 a3 = some r) : FnSpec Try.prog 24 [.agg [.c (.int .i64 a1), .c (.int .i64 a2), .c (.int .i64 a3)]] [] (.c (.int .i64 r)) ([]) := by
  rw [← parquetlaw09_disc.f_eq] at h
  refine (evFun_ok (parquetlaw09_disc.env N) Try_mixed Try.func24 (by kernel_rfl : Try.f24.body = some parquetlaw09_disc.body) (by kernel_rfl) (parquetlaw09_disc.res_eq N) (by kernel_rfl) (by kernel_rfl) (Nat.le_of_ble_eq_true (by kernel_rfl)) (AllCut.of (l := []) (by kernel_rfl) AllCut.nil) h).of fun v bs' h1 => ?_
  unfold parquetlaw09_disc.dec at h1; split at h1
  · cases h1; exact ⟨rfl, rfl⟩
  · cases h1
theorem parquetlaw09_disc.ent_ok (N : Nat) : TabOK1 Try.prog 24 (parquetlaw09_disc.ent N) := by
  intro args bs a enc h
  simp only [parquetlaw09_disc.ent] at h
  split at h
  · rename_i hz; have h0 := Option.some.inj h; have h1 := congrArg Prod.fst h0; have h2 := congrArg Prod.snd h0; dsimp only at h1 h2; subst h2; exact FnSpec.of_freeze hz (parquetlaw09_disc.spec N _ _ _ a h1)
  · cases h
/-! parquet/parquetlaw09.small: function 25 -/
noncomputable def parquetlaw09_small.f (N : Nat) (a1 : Int) (a2 : Int) (a3 : Int) (a4 : Int) : Option (Bool) :=
  bif decide (a1 < (-16384)) then
    some false
  else
  bif decide (a1 > 16384) then
    some false
  else
  bif decide (a2 < (-16384)) then
    some false
  else
  bif decide (a2 > 16384) then
    some false
  else
  bif decide (a3 < (-16384)) then
    some false
  else
  bif decide (a3 > 16384) then
    some false
  else
  bif decide (a4 < (-16384)) then
    some false
  else
  bif decide (a4 > 16384) then
    some false
  else
  some true
noncomputable def parquetlaw09_small.body : Code := (Try.f25.body).getD .skip
noncomputable def parquetlaw09_small.ty : List (Nat × TI) := [(2, ty2), (35, ty35), (62, ty62)]
noncomputable def parquetlaw09_small.h2 : Hint := ⟨[(13, .recd [.any, .any, .any, .any]), (14, .any)], []⟩
noncomputable def parquetlaw09_small.E (N : Nat) : Env := { ty := lookN parquetlaw09_small.ty, tab := lookN [], hint := lookN [(2, parquetlaw09_small.h2)], cut := lookN [], N := 40, res := [.tmp 2], rsh := [.any], nb := 0, ntmps := 24, own := false }
noncomputable def parquetlaw09_small.dec (v : V) (bs : List Blk) : Option (Bool) := match v, bs with
  | .c (.bool z0), [] => some z0
  | _, _ => none
set_option maxRecDepth 100000 in
theorem parquetlaw09_small.f_eq (N : Nat) (a1 : Int) (a2 : Int) (a3 : Int) (a4 : Int) :
    evFun (parquetlaw09_small.E N) parquetlaw09_small.body [.agg [.c (.int .i64 a1), .c (.int .i64 a2), .c (.int .i64 a3), .c (.int .i64 a4)]] [] parquetlaw09_small.dec = parquetlaw09_small.f N a1 a2 a3 a4 := by kernel_rfl
noncomputable def parquetlaw09_small.ent (N : Nat) : Entry := { A := Bool, fresh := 0, imm := [true], dec := fun args bs => match freezeL 0 (fun _ => .dead) [.recd [.any, .any, .any, .any]] args, bs with
  | some [.agg [.c (.int .i64 a1), .c (.int .i64 a2), .c (.int .i64 a3), .c (.int .i64 a4)]], [] => some (parquetlaw09_small.f N a1 a2 a3 a4, fun r => .one (.c (.bool r)) [])
  | _, _ => none }
theorem parquetlaw09_small.env (N : Nat) : EnvOK Try.prog (parquetlaw09_small.E N) := ⟨(TyOK.cons ty2_ok (TyOK.cons ty35_ok (TyOK.cons ty62_ok TyOK.nil))), TabOK.nil⟩
theorem parquetlaw09_small.res_eq (N : Nat) : (parquetlaw09_small.E N).res = Try.f25.results.toList := by kernel_rfl
theorem parquetlaw09_small.spec (N : Nat) (a1 : Int) (a2 : Int) (a3 : Int) (a4 : Int) (r : Bool) (h : parquetlaw09_small.f N a1 a2 a3 a4 = some r) : FnSpec Try.prog 25 [.agg [.c (.int .i64 a1), .c (.int .i64 a2), .c (.int .i64 a3), .c (.int .i64 a4)]] [] (.c (.bool r)) ([]) := by
  rw [← parquetlaw09_small.f_eq] at h
  refine (evFun_ok (parquetlaw09_small.env N) Try_mixed Try.func25 (by kernel_rfl : Try.f25.body = some parquetlaw09_small.body) (by kernel_rfl) (parquetlaw09_small.res_eq N) (by kernel_rfl) (by kernel_rfl) (Nat.le_of_ble_eq_true (by kernel_rfl)) (AllCut.of (l := [(.loop (inner ((subLoops parquetlaw09_small.body).getD 0 .skip)))]) (by kernel_rfl) (AllCut.cons (cut_loop (by kernel_rfl)) AllCut.nil)) h).of fun v bs' h1 => ?_
  unfold parquetlaw09_small.dec at h1; split at h1
  · cases h1; exact ⟨rfl, rfl⟩
  · cases h1
theorem parquetlaw09_small.ent_ok (N : Nat) : TabOK1 Try.prog 25 (parquetlaw09_small.ent N) := by
  intro args bs a enc h
  simp only [parquetlaw09_small.ent] at h
  split at h
  · rename_i hz; have h0 := Option.some.inj h; have h1 := congrArg Prod.fst h0; have h2 := congrArg Prod.snd h0; dsimp only at h1 h2; subst h2; exact FnSpec.of_freeze hz (parquetlaw09_small.spec N _ _ _ _ a h1)
  · cases h
/-! parquet/parquetlaw09.turned: function 26 -/
noncomputable def parquetlaw09_turned.f (N : Nat) (a1 : Int) (a2 : Int) (a3 : Int) (a4 : Int) (a5 : Int) (a6 : Int) (a7 : Int) : Option (Int × Int × Int) :=
  some (wi64 ((wi64 ((wi64 ((wi64 (a1 * a4)) * a4)) + (wi64 ((wi64 (a2 * a4)) * a6)))) + (wi64 ((wi64 (a3 * a6)) * a6))), wi64 ((wi64 ((wi64 ((wi64 ((wi64 (2 * a1)) * a4)) * a5)) + (wi64 (a2 * (wi64 ((wi64 (a4 * a7)) + (wi64 (a5 * a6)))))))) + (wi64 ((wi64 ((wi64 (2 * a3)) * a6)) * a7))), wi64 ((wi64 ((wi64 ((wi64 (a1 * a5)) * a5)) + (wi64 ((wi64 (a2 * a5)) * a7)))) + (wi64 ((wi64 (a3 * a7)) * a7))))
noncomputable def parquetlaw09_turned.body : Code := (Try.f26.body).getD .skip
noncomputable def parquetlaw09_turned.ty : List (Nat × TI) := [(2, ty2), (23, ty23), (35, ty35)]
noncomputable def parquetlaw09_turned.E (N : Nat) : Env := { ty := lookN parquetlaw09_turned.ty, tab := lookN [], hint := lookN [], cut := lookN [], N := N, res := [.cell 4 23], rsh := [.recd [.any, .any, .any]], nb := 0, ntmps := 92, own := false }
noncomputable def parquetlaw09_turned.dec (v : V) (bs : List Blk) : Option (Int × Int × Int) := match v, bs with
  | .agg [.c (.int .i64 z0), .c (.int .i64 z1), .c (.int .i64 z2)], [] => some (z0, z1, z2)
  | _, _ => none
set_option maxRecDepth 100000 in
theorem parquetlaw09_turned.f_eq (N : Nat) (a1 : Int) (a2 : Int) (a3 : Int) (a4 : Int) (a5 : Int) (a6 : Int) (a7 : Int) :
    evFun (parquetlaw09_turned.E N) parquetlaw09_turned.body [.agg [.c (.int .i64 a1), .c (.int .i64 a2), .c (.int .i64 a3)], .agg [.c (.int .i64 a4), .c (.int .i64 a5), .c (.int .i64 a6), .c (.int .i64 a7)]] [] parquetlaw09_turned.dec = parquetlaw09_turned.f N a1 a2 a3 a4 a5 a6 a7 := by kernel_rfl
noncomputable def parquetlaw09_turned.ent (N : Nat) : Entry := { A := Int × Int × Int, fresh := 0, imm := [true, true], dec := fun args bs => match freezeL 0 (fun _ => .dead) [.recd [.any, .any, .any], .recd [.any, .any, .any, .any]] args, bs with
  | some [.agg [.c (.int .i64 a1), .c (.int .i64 a2), .c (.int .i64 a3)], .agg [.c (.int .i64 a4), .c (.int .i64 a5), .c (.int .i64 a6), .c (.int .i64 a7)]], [] => some (parquetlaw09_turned.f N a1 a2 a3 a4 a5 a6 a7, fun r => .one (.agg [.c (.int .i64 r.1), .c (.int .i64 r.2.1), .c (.int .i64 r.2.2)]) [])
  | _, _ => none }
theorem parquetlaw09_turned.env (N : Nat) : EnvOK Try.prog (parquetlaw09_turned.E N) := ⟨(TyOK.cons ty2_ok (TyOK.cons ty23_ok (TyOK.cons ty35_ok TyOK.nil))), TabOK.nil⟩
theorem parquetlaw09_turned.res_eq (N : Nat) : (parquetlaw09_turned.E N).res = Try.f26.results.toList := by kernel_rfl
theorem parquetlaw09_turned.spec (N : Nat) (a1 : Int) (a2 : Int) (a3 : Int) (a4 : Int) (a5 : Int) (a6 : Int) (a7 : Int) (r : Int × Int × Int) (h : parquetlaw09_turned.f N a1 a2 a3 a4 a5 a6 a7 = some r) : FnSpec Try.prog 26 [.agg [.c (.int .i64 a1), .c (.int .i64 a2), .c (.int .i64 a3)], .agg [.c (.int .i64 a4), .c (.int .i64 a5), .c (.int .i64 a6), .c (.int .i64 a7)]] [] (.agg [.c (.int .i64 r.1), .c (.int .i64 r.2.1), .c (.int .i64 r.2.2)]) ([]) := by
  rw [← parquetlaw09_turned.f_eq] at h
  refine (evFun_ok (parquetlaw09_turned.env N) Try_mixed Try.func26 (by kernel_rfl : Try.f26.body = some parquetlaw09_turned.body) (by kernel_rfl) (parquetlaw09_turned.res_eq N) (by kernel_rfl) (by kernel_rfl) (Nat.le_of_ble_eq_true (by kernel_rfl)) (AllCut.of (l := []) (by kernel_rfl) AllCut.nil) h).of fun v bs' h1 => ?_
  unfold parquetlaw09_turned.dec at h1; split at h1
  · cases h1; exact ⟨rfl, rfl⟩
  · cases h1
theorem parquetlaw09_turned.ent_ok (N : Nat) : TabOK1 Try.prog 26 (parquetlaw09_turned.ent N) := by
  intro args bs a enc h
  simp only [parquetlaw09_turned.ent] at h
  split at h
  · rename_i hz; have h0 := Option.some.inj h; have h1 := congrArg Prod.fst h0; have h2 := congrArg Prod.snd h0; dsimp only at h1 h2; subst h2; exact FnSpec.of_freeze hz (parquetlaw09_turned.spec N _ _ _ _ _ _ _ a h1)
  · cases h
/-! parquet/parquetlaw09.back: function 27 -/
noncomputable def parquetlaw09_back.f (N : Nat) (a1 : Int) (a2 : Int) (a3 : Int) : Option (Int × Int × Int) :=
  some (a3, a2, a1)
noncomputable def parquetlaw09_back.body : Code := (Try.f27.body).getD .skip
noncomputable def parquetlaw09_back.ty : List (Nat × TI) := [(2, ty2), (23, ty23)]
noncomputable def parquetlaw09_back.E (N : Nat) : Env := { ty := lookN parquetlaw09_back.ty, tab := lookN [], hint := lookN [], cut := lookN [], N := N, res := [.cell 2 23], rsh := [.recd [.any, .any, .any]], nb := 0, ntmps := 10, own := false }
noncomputable def parquetlaw09_back.dec (v : V) (bs : List Blk) : Option (Int × Int × Int) := match v, bs with
  | .agg [.c (.int .i64 z0), .c (.int .i64 z1), .c (.int .i64 z2)], [] => some (z0, z1, z2)
  | _, _ => none
set_option maxRecDepth 100000 in
theorem parquetlaw09_back.f_eq (N : Nat) (a1 : Int) (a2 : Int) (a3 : Int) :
    evFun (parquetlaw09_back.E N) parquetlaw09_back.body [.agg [.c (.int .i64 a1), .c (.int .i64 a2), .c (.int .i64 a3)]] [] parquetlaw09_back.dec = parquetlaw09_back.f N a1 a2 a3 := by kernel_rfl
noncomputable def parquetlaw09_back.ent (N : Nat) : Entry := { A := Int × Int × Int, fresh := 0, imm := [true], dec := fun args bs => match freezeL 0 (fun _ => .dead) [.recd [.any, .any, .any]] args, bs with
  | some [.agg [.c (.int .i64 a1), .c (.int .i64 a2), .c (.int .i64 a3)]], [] => some (parquetlaw09_back.f N a1 a2 a3, fun r => .one (.agg [.c (.int .i64 r.1), .c (.int .i64 r.2.1), .c (.int .i64 r.2.2)]) [])
  | _, _ => none }
theorem parquetlaw09_back.env (N : Nat) : EnvOK Try.prog (parquetlaw09_back.E N) := ⟨(TyOK.cons ty2_ok (TyOK.cons ty23_ok TyOK.nil)), TabOK.nil⟩
theorem parquetlaw09_back.res_eq (N : Nat) : (parquetlaw09_back.E N).res = Try.f27.results.toList := by kernel_rfl
theorem parquetlaw09_back.spec (N : Nat) (a1 : Int) (a2 : Int) (a3 : Int) (r : Int × Int × Int) (h : parquetlaw09_back.f N a1 a2 a3 = some r) : FnSpec Try.prog 27 [.agg [.c (.int .i64 a1), .c (.int .i64 a2), .c (.int .i64 a3)]] [] (.agg [.c (.int .i64 r.1), .c (.int .i64 r.2.1), .c (.int .i64 r.2.2)]) ([]) := by
  rw [← parquetlaw09_back.f_eq] at h
  refine (evFun_ok (parquetlaw09_back.env N) Try_mixed Try.func27 (by kernel_rfl : Try.f27.body = some parquetlaw09_back.body) (by kernel_rfl) (parquetlaw09_back.res_eq N) (by kernel_rfl) (by kernel_rfl) (Nat.le_of_ble_eq_true (by kernel_rfl)) (AllCut.of (l := []) (by kernel_rfl) AllCut.nil) h).of fun v bs' h1 => ?_
  unfold parquetlaw09_back.dec at h1; split at h1
  · cases h1; exact ⟨rfl, rfl⟩
  · cases h1
theorem parquetlaw09_back.ent_ok (N : Nat) : TabOK1 Try.prog 27 (parquetlaw09_back.ent N) := by
  intro args bs a enc h
  simp only [parquetlaw09_back.ent] at h
  split at h
  · rename_i hz; have h0 := Option.some.inj h; have h1 := congrArg Prod.fst h0; have h2 := congrArg Prod.snd h0; dsimp only at h1 h2; subst h2; exact FnSpec.of_freeze hz (parquetlaw09_back.spec N _ _ _ a h1)
  · cases h
/-! parquet/parquetlaw09.CycleTurns: function 5 -/
noncomputable def parquetlaw09_CycleTurns.f (N : Nat) (a1 : Int) (a2 : Int) (a3 : Int) : Option (Bool) :=
  (parquetlaw09_works.f N).bind fun r4 =>
  bif !r4 then
    some false
  else
  (cycle_Next.f N a1 a2 a3).bind fun r5 =>
  (cycle_Reduce.f N a1 a2 a3).bind fun r6 =>
  bif r5.2.2.2.2.2.2.2 != r6.2.2.2.2.2.2.2 then
    some false
  else
  (cycle_Check.f N a1 a2 a3).bind fun r7 =>
  bif r5.2.2.2.2.2.2.2 != r7 then
    some false
  else
  bif r5.2.2.2.2.2.2.2 != 0 then
    some true
  else
  (parquetlaw09_disc.f N r5.1 r5.2.1 r5.2.2.1).bind fun r8 =>
  (parquetlaw09_disc.f N a1 a2 a3).bind fun r9 =>
  bif r8 != r9 then
    some false
  else
  (parquetlaw09_disc.f N r6.1 r6.2.1 r6.2.2.1).bind fun r10 =>
  (parquetlaw09_disc.f N a1 a2 a3).bind fun r11 =>
  bif r10 != r11 then
    some false
  else
  (cycle_Reduced.f N r6.1 r6.2.1 r6.2.2.1).bind fun r12 =>
  bif !r12 then
    some false
  else
  (parquetlaw09_small.f N r5.2.2.2.1 r5.2.2.2.2.1 r5.2.2.2.2.2.1 r5.2.2.2.2.2.2.1).bind fun r13 =>
  bif r13 then
    (parquetlaw09_turned.f N a1 a2 a3 r5.2.2.2.1 r5.2.2.2.2.1 r5.2.2.2.2.2.1 r5.2.2.2.2.2.2.1).bind fun r14 =>
    bif !((r14.1 == r5.1) && ((r14.2.1 == r5.2.1) && (r14.2.2 == r5.2.2.1))) then
      some false
    else
    bif (wi64 ((wi64 (r5.2.2.2.1 * r5.2.2.2.2.2.2.1)) - (wi64 (r5.2.2.2.2.1 * r5.2.2.2.2.2.1)))) != 1 then
      some false
    else
    (parquetlaw09_small.f N r6.2.2.2.1 r6.2.2.2.2.1 r6.2.2.2.2.2.1 r6.2.2.2.2.2.2.1).bind fun r15 =>
    bif !r15 then
      some true
    else
    (parquetlaw09_turned.f N a1 a2 a3 r6.2.2.2.1 r6.2.2.2.2.1 r6.2.2.2.2.2.1 r6.2.2.2.2.2.2.1).bind fun r16 =>
    bif (r16.1 == r6.1) && ((r16.2.1 == r6.2.1) && (r16.2.2 == r6.2.2.1)) then
      some ((wi64 ((wi64 (r6.2.2.2.1 * r6.2.2.2.2.2.2.1)) - (wi64 (r6.2.2.2.2.1 * r6.2.2.2.2.2.1)))) == 1)
    else
    some false
  else
  (parquetlaw09_small.f N r6.2.2.2.1 r6.2.2.2.2.1 r6.2.2.2.2.2.1 r6.2.2.2.2.2.2.1).bind fun r17 =>
  bif !r17 then
    some true
  else
  (parquetlaw09_turned.f N a1 a2 a3 r6.2.2.2.1 r6.2.2.2.2.1 r6.2.2.2.2.2.1 r6.2.2.2.2.2.2.1).bind fun r18 =>
  bif (r18.1 == r6.1) && ((r18.2.1 == r6.2.1) && (r18.2.2 == r6.2.2.1)) then
    some ((wi64 ((wi64 (r6.2.2.2.1 * r6.2.2.2.2.2.2.1)) - (wi64 (r6.2.2.2.2.1 * r6.2.2.2.2.2.1)))) == 1)
  else
  some false
noncomputable def parquetlaw09_CycleTurns.body : Code := (Try.f5.body).getD .skip
noncomputable def parquetlaw09_CycleTurns.ty : List (Nat × TI) := [(2, ty2), (23, ty23), (35, ty35)]
noncomputable def parquetlaw09_CycleTurns.E (N : Nat) : Env := { ty := lookN parquetlaw09_CycleTurns.ty, tab := lookN [(16, parquetlaw09_works.ent N), (18, cycle_Next.ent N), (19, cycle_Reduce.ent N), (17, cycle_Check.ent N), (24, parquetlaw09_disc.ent N), (20, cycle_Reduced.ent N), (25, parquetlaw09_small.ent N), (26, parquetlaw09_turned.ent N)], hint := lookN [], cut := lookN [], N := N, res := [.tmp 2], rsh := [.any], nb := 0, ntmps := 98, own := false }
noncomputable def parquetlaw09_CycleTurns.dec (v : V) (bs : List Blk) : Option (Bool) := match v, bs with
  | .c (.bool z0), [] => some z0
  | _, _ => none
set_option maxRecDepth 100000 in
theorem parquetlaw09_CycleTurns.f_eq (N : Nat) (a1 : Int) (a2 : Int) (a3 : Int) :
    evFun (parquetlaw09_CycleTurns.E N) parquetlaw09_CycleTurns.body [.agg [.c (.int .i64 a1), .c (.int .i64 a2), .c (.int .i64 a3)]] [] parquetlaw09_CycleTurns.dec = parquetlaw09_CycleTurns.f N a1 a2 a3 := by kernel_rfl
noncomputable def parquetlaw09_CycleTurns.ent (N : Nat) : Entry := { A := Bool, fresh := 0, imm := [true], dec := fun args bs => match freezeL 0 (fun _ => .dead) [.recd [.any, .any, .any]] args, bs with
  | some [.agg [.c (.int .i64 a1), .c (.int .i64 a2), .c (.int .i64 a3)]], [] => some (parquetlaw09_CycleTurns.f N a1 a2 a3, fun r => .one (.c (.bool r)) [])
  | _, _ => none }
theorem parquetlaw09_CycleTurns.env (N : Nat) : EnvOK Try.prog (parquetlaw09_CycleTurns.E N) := ⟨(TyOK.cons ty2_ok (TyOK.cons ty23_ok (TyOK.cons ty35_ok TyOK.nil))), (TabOK.cons (parquetlaw09_works.ent_ok N) (TabOK.cons (cycle_Next.ent_ok N) (TabOK.cons (cycle_Reduce.ent_ok N) (TabOK.cons (cycle_Check.ent_ok N) (TabOK.cons (parquetlaw09_disc.ent_ok N) (TabOK.cons (cycle_Reduced.ent_ok N) (TabOK.cons (parquetlaw09_small.ent_ok N) (TabOK.cons (parquetlaw09_turned.ent_ok N) TabOK.nil))))))))⟩
theorem parquetlaw09_CycleTurns.res_eq (N : Nat) : (parquetlaw09_CycleTurns.E N).res = Try.f5.results.toList := by kernel_rfl
theorem parquetlaw09_CycleTurns.spec (N : Nat) (a1 : Int) (a2 : Int) (a3 : Int) (r : Bool) (h : parquetlaw09_CycleTurns.f N a1 a2 a3 = some r) : FnSpec Try.prog 5 [.agg [.c (.int .i64 a1), .c (.int .i64 a2), .c (.int .i64 a3)]] [] (.c (.bool r)) ([]) := by
  rw [← parquetlaw09_CycleTurns.f_eq] at h
  refine (evFun_ok (parquetlaw09_CycleTurns.env N) Try_mixed Try.func5 (by kernel_rfl : Try.f5.body = some parquetlaw09_CycleTurns.body) (by kernel_rfl) (parquetlaw09_CycleTurns.res_eq N) (by kernel_rfl) (by kernel_rfl) (Nat.le_of_ble_eq_true (by kernel_rfl)) (AllCut.of (l := []) (by kernel_rfl) AllCut.nil) h).of fun v bs' h1 => ?_
  unfold parquetlaw09_CycleTurns.dec at h1; split at h1
  · cases h1; exact ⟨rfl, rfl⟩
  · cases h1
theorem parquetlaw09_CycleTurns.ent_ok (N : Nat) : TabOK1 Try.prog 5 (parquetlaw09_CycleTurns.ent N) := by
  intro args bs a enc h
  simp only [parquetlaw09_CycleTurns.ent] at h
  split at h
  · rename_i hz; have h0 := Option.some.inj h; have h1 := congrArg Prod.fst h0; have h2 := congrArg Prod.snd h0; dsimp only at h1 h2; subst h2; exact FnSpec.of_freeze hz (parquetlaw09_CycleTurns.spec N _ _ _ a h1)
  · cases h
/-! parquet/parquetlaw09.CycleGoes: function 6 -/
noncomputable def parquetlaw09_CycleGoes.l11 {R : Type} (N : Nat) : Nat → Int → Int → Int → Int → Int → Int → List Int → List (List Int) → List Bool → (Int → Int → Int → Int → List Int → Option R) → (Bool → Option R) → Option R
  | 0, _, _, _, _, _, _, _, _, _, _, _ => none
  | n + 1, x7, x8, x9, x10, x11, x12, x13, x14, x15, k0, kr =>
    bif decide (x9 < x8) then
      bif (decide (0 ≤ x9)) && (decide (x9 < (x13.length / 3 : Int))) then
        (cycle_Next.f N (x13.getD (x9.toNat * 3) 0) (x13.getD ((x9.toNat * 3) + 1) 0) (x13.getD ((x9.toNat * 3) + 2) 0)).bind fun r16 =>
        (parquetlaw09_back.f N r16.1 r16.2.1 r16.2.2.1).bind fun r17 =>
        (cycle_Next.f N r17.1 r17.2.1 r17.2.2).bind fun r18 =>
        bif mgetB [x13.getD (x9.toNat * 3) 0, x13.getD ((x9.toNat * 3) + 1) 0, x13.getD ((x9.toNat * 3) + 2) 0] x14 x15 then
          kr false
        else
        (cycle_Reduced.f N (x13.getD (x9.toNat * 3) 0) (x13.getD ((x9.toNat * 3) + 1) 0) (x13.getD ((x9.toNat * 3) + 2) 0)).bind fun r20 =>
        bif !r20 then
          kr false
        else
        (parquetlaw09_disc.f N (x13.getD (x9.toNat * 3) 0) (x13.getD ((x9.toNat * 3) + 1) 0) (x13.getD ((x9.toNat * 3) + 2) 0)).bind fun r21 =>
        (parquetlaw09_disc.f N x10 x11 x12).bind fun r22 =>
        bif r21 != r22 then
          kr false
        else
        bif r16.2.2.2.2.2.2.2 != 0 then
          kr false
        else
        bif !(x7 == 0) then
          bif (decide (0 ≤ (Int.tmod (wi64 (x9 + 1)) x7))) && (decide ((Int.tmod (wi64 (x9 + 1)) x7) < (x13.length / 3 : Int))) then
            bif !((r16.1 == (x13.getD (((Int.tmod (wi64 (x9 + 1)) x7).toNat) * 3) 0)) && ((r16.2.1 == (x13.getD ((((Int.tmod (wi64 (x9 + 1)) x7).toNat) * 3) + 1) 0)) && (r16.2.2.1 == (x13.getD ((((Int.tmod (wi64 (x9 + 1)) x7).toNat) * 3) + 2) 0)))) then
              kr false
            else
            bif r18.2.2.2.2.2.2.2 != 0 then
              kr false
            else
            (parquetlaw09_back.f N r18.1 r18.2.1 r18.2.2.1).bind fun r23 =>
            bif !((r23.1 == (x13.getD (x9.toNat * 3) 0)) && ((r23.2.1 == (x13.getD ((x9.toNat * 3) + 1) 0)) && (r23.2.2 == (x13.getD ((x9.toNat * 3) + 2) 0)))) then
              kr false
            else
            bif (decide ((x13.getD (x9.toNat * 3) 0) > 0)) == (decide (r16.1 > 0)) then
              kr false
            else
            parquetlaw09_CycleGoes.l11 N n x7 x8 (wi64 (x9 + 1)) x10 x11 x12 x13 (mputK [x13.getD (x9.toNat * 3) 0, x13.getD ((x9.toNat * 3) + 1) 0, x13.getD ((x9.toNat * 3) + 2) 0] x14) (mput [x13.getD (x9.toNat * 3) 0, x13.getD ((x9.toNat * 3) + 1) 0, x13.getD ((x9.toNat * 3) + 2) 0] true x14 x15) k0 kr
          else none
        else none
      else none
    else
    k0 x7 x10 x11 x12 x13
noncomputable def parquetlaw09_CycleGoes.l23 {R : Type} (N : Nat) : Nat → Int → Int → Int → Int → Int → Int → List Int → List Int → (Int → Int → Int → Int → List Int → Option R) → (Bool → Option R) → Option R
  | 0, _, _, _, _, _, _, _, _, _, _ => none
  | n + 1, x35, x36, x37, x38, x39, x40, x41, x42, k2, kr =>
    bif decide (x37 < x36) then
      bif (decide (0 ≤ x37)) && (decide (x37 < (x42.length / 3 : Int))) then
        bif !(x35 == 0) then
          bif (decide (0 ≤ (Int.tmod (wi64 ((wi64 (Int.tdiv x35 2)) + x37)) x35))) && (decide ((Int.tmod (wi64 ((wi64 (Int.tdiv x35 2)) + x37)) x35) < (x41.length / 3 : Int))) then
            bif !(((x42.getD (x37.toNat * 3) 0) == (x41.getD (((Int.tmod (wi64 ((wi64 (Int.tdiv x35 2)) + x37)) x35).toNat) * 3) 0)) && (((x42.getD ((x37.toNat * 3) + 1) 0) == (x41.getD ((((Int.tmod (wi64 ((wi64 (Int.tdiv x35 2)) + x37)) x35).toNat) * 3) + 1) 0)) && ((x42.getD ((x37.toNat * 3) + 2) 0) == (x41.getD ((((Int.tmod (wi64 ((wi64 (Int.tdiv x35 2)) + x37)) x35).toNat) * 3) + 2) 0)))) then
              kr false
            else
            parquetlaw09_CycleGoes.l23 N n x35 x36 (wi64 (x37 + 1)) x38 x39 x40 x41 x42 k2 kr
          else none
        else none
      else none
    else
    k2 x35 x38 x39 x40 x41
noncomputable def parquetlaw09_CycleGoes.f (N : Nat) (a1 : Int) (a2 : Int) (a3 : Int) : Option (Bool) :=
  (parquetlaw09_works.f N).bind fun r4 =>
  bif !r4 then
    some false
  else
  (cycle_Cycle.f N a1 a2 a3).bind fun r5 =>
  bif r5.2 != 0 then
    bif r5.2 == 9 then
      some true
    else
    (cycle_Check.f N a1 a2 a3).bind fun r6 =>
    some (r5.2 == r6)
  else
  bif (r5.1.length / 3 : Int) == 0 then
    some false
  else
  bif decide ((r5.1.length / 3 : Int) > 4096) then
    some false
  else
  bif (Int.tmod (r5.1.length / 3 : Int) 2) != 0 then
    some false
  else
  parquetlaw09_CycleGoes.l11 N N (r5.1.length / 3 : Int) (r5.1.length / 3 : Int) 0 a1 a2 a3 r5.1 [] []
    (fun y29 y30 y31 y32 y33 =>
      bif (decide (0 ≤ (wi64 (Int.tdiv y29 2)))) && (decide ((wi64 (Int.tdiv y29 2)) < (y33.length / 3 : Int))) then
        (cycle_Cycle.f N (y33.getD (((wi64 (Int.tdiv y29 2)).toNat) * 3) 0) (y33.getD ((((wi64 (Int.tdiv y29 2)).toNat) * 3) + 1) 0) (y33.getD ((((wi64 (Int.tdiv y29 2)).toNat) * 3) + 2) 0)).bind fun r34 =>
        bif r34.2 != 0 then
          some false
        else
        bif (r34.1.length / 3 : Int) != y29 then
          some false
        else
        parquetlaw09_CycleGoes.l23 N N y29 (r34.1.length / 3 : Int) 0 y30 y31 y32 y33 r34.1
          (fun y49 y50 y51 y52 y53 =>
            bif decide (0 < (y53.length / 3 : Int)) then
              (cycle_Proper.f N y50 y51 y52 (y53.getD 0 0) (y53.getD 1 0) (y53.getD 2 0)).bind fun r54 =>
              bif !r54.1 then
                some false
              else
              bif r54.2 != 0 then
                some false
              else
              bif decide (1 < (y53.length / 3 : Int)) then
                (cycle_Proper.f N y50 y51 y52 (y53.getD 3 0) (y53.getD 4 0) (y53.getD 5 0)).bind fun r55 =>
                bif !r55.1 then
                  some false
                else
                bif r55.2 != 0 then
                  some false
                else
                bif (decide (0 ≤ (wi64 (y49 - 1)))) && (decide ((wi64 (y49 - 1)) < (y53.length / 3 : Int))) then
                  (cycle_Proper.f N y50 y51 y52 (y53.getD (((wi64 (y49 - 1)).toNat) * 3) 0) (y53.getD ((((wi64 (y49 - 1)).toNat) * 3) + 1) 0) (y53.getD ((((wi64 (y49 - 1)).toNat) * 3) + 2) 0)).bind fun r56 =>
                  bif !r56.1 then
                    some false
                  else
                  bif r56.2 != 0 then
                    some false
                  else
                  some true
                else none
              else none
            else none)
          (fun y57 =>
            some y57)
      else none)
    (fun y58 =>
      some y58)
noncomputable def parquetlaw09_CycleGoes.body : Code := (Try.f6.body).getD .skip
noncomputable def parquetlaw09_CycleGoes.ty : List (Nat × TI) := [(2, ty2), (3, ty3), (4, ty4), (23, ty23), (24, ty24), (35, ty35), (44, ty44), (46, ty46)]
noncomputable def parquetlaw09_CycleGoes.h11 : Hint := ⟨[(1, .box [.any, .any, .any]), (3, .row .i64 3), (5, .any), (6, .any), (52, .row .i64 3), (53, .any), (54, .any)], [(1, .box [.any, .any, .any]), (3, .row .i64 3), (5, .any)]⟩
noncomputable def parquetlaw09_CycleGoes.h23 : Hint := ⟨[(1, .box [.any, .any, .any]), (3, .row .i64 3), (5, .any), (15, .row .i64 3), (142, .any), (143, .any)], [(1, .box [.any, .any, .any]), (3, .row .i64 3), (5, .any)]⟩
noncomputable def parquetlaw09_CycleGoes.h29 : Hint := ⟨[(1, .box [.any, .any, .any]), (3, .row .i64 3), (163, .recd [.any, .any, .any]), (164, .any)], []⟩
noncomputable def parquetlaw09_CycleGoes.c11 (N : Nat) : Cut := ⟨fun vs H k => match vs, H with
  | [.ptr 0 0 3, .sw 1 3, .c (.int .i64 x7), .mref 2, .sw 1 3, .c (.int .i64 x8), .c (.int .i64 x9)], [.vals [.c (.int .i64 x10), .c (.int .i64 x11), .c (.int .i64 x12)], .ints .i64 x13, .mp .i64 3 x14 (.bools x15)] => parquetlaw09_CycleGoes.l11 N N x7 x8 x9 x10 x11 x12 x13 x14 x15 (fun x24 x25 x26 x27 x28 => k (.exit 0) ⟨mkT parquetlaw09_CycleGoes.h11.out [.ptr 0 0 3, .sw 1 3, .c (.int .i64 x24)], [.vals [.c (.int .i64 x25), .c (.int .i64 x26), .c (.int .i64 x27)], .ints .i64 x28]⟩) (fun x19 => k (.ret (.c (.bool x19)) []) .nil)
  | _, _ => none⟩
noncomputable def parquetlaw09_CycleGoes.c23 (N : Nat) : Cut := ⟨fun vs H k => match vs, H with
  | [.ptr 0 0 3, .sw 1 3, .c (.int .i64 x35), .sw 2 3, .c (.int .i64 x36), .c (.int .i64 x37)], [.vals [.c (.int .i64 x38), .c (.int .i64 x39), .c (.int .i64 x40)], .ints .i64 x41, .ints .i64 x42] => parquetlaw09_CycleGoes.l23 N N x35 x36 x37 x38 x39 x40 x41 x42 (fun x44 x45 x46 x47 x48 => k (.exit 2) ⟨mkT parquetlaw09_CycleGoes.h23.out [.ptr 0 0 3, .sw 1 3, .c (.int .i64 x44)], [.vals [.c (.int .i64 x45), .c (.int .i64 x46), .c (.int .i64 x47)], .ints .i64 x48]⟩) (fun x43 => k (.ret (.c (.bool x43)) []) .nil)
  | _, _ => none⟩
noncomputable def parquetlaw09_CycleGoes.E (N : Nat) : Env := { ty := lookN parquetlaw09_CycleGoes.ty, tab := lookN [(16, parquetlaw09_works.ent N), (10, cycle_Cycle.ent N), (17, cycle_Check.ent N), (18, cycle_Next.ent N), (27, parquetlaw09_back.ent N), (20, cycle_Reduced.ent N), (24, parquetlaw09_disc.ent N), (11, cycle_Proper.ent N)], hint := lookN [(11, parquetlaw09_CycleGoes.h11), (23, parquetlaw09_CycleGoes.h23), (29, parquetlaw09_CycleGoes.h29)], cut := lookN [(11, parquetlaw09_CycleGoes.c11 N), (23, parquetlaw09_CycleGoes.c23 N)], N := 40, res := [.tmp 2], rsh := [.any], nb := 0, ntmps := 183, own := false }
noncomputable def parquetlaw09_CycleGoes.b11 : Code := inner ((subLoops parquetlaw09_CycleGoes.body).getD 0 .skip)
set_option maxRecDepth 100000 in
theorem parquetlaw09_CycleGoes.l11_eq {R : Type} (N n : Nat) (x7 : Int) (x8 : Int) (x9 : Int) (x10 : Int) (x11 : Int) (x12 : Int) (x13 : List Int) (x14 : List (List Int)) (x15 : List Bool) (k : Ex → St → Option R) :
    evLoop 0 parquetlaw09_CycleGoes.h11 (fun s k => evCode (parquetlaw09_CycleGoes.E N) 389 parquetlaw09_CycleGoes.b11 s k) n [.ptr 0 0 3, .sw 1 3, .c (.int .i64 x7), .mref 2, .sw 1 3, .c (.int .i64 x8), .c (.int .i64 x9)] [.vals [.c (.int .i64 x10), .c (.int .i64 x11), .c (.int .i64 x12)], .ints .i64 x13, .mp .i64 3 x14 (.bools x15)] k = parquetlaw09_CycleGoes.l11 N n x7 x8 x9 x10 x11 x12 x13 x14 x15 (fun x24 x25 x26 x27 x28 => k (.exit 0) ⟨mkT parquetlaw09_CycleGoes.h11.out [.ptr 0 0 3, .sw 1 3, .c (.int .i64 x24)], [.vals [.c (.int .i64 x25), .c (.int .i64 x26), .c (.int .i64 x27)], .ints .i64 x28]⟩) (fun x19 => k (.ret (.c (.bool x19)) []) .nil) := by
  induction n generalizing x7 x8 x9 x10 x11 x12 x13 x14 x15 with
  | zero => kernel_rfl
  | succ n ih =>
    simp only [parquetlaw09_CycleGoes.l11, ← ih]
    kernel_rfl
noncomputable def parquetlaw09_CycleGoes.b23 : Code := inner ((subLoops parquetlaw09_CycleGoes.body).getD 1 .skip)
set_option maxRecDepth 100000 in
theorem parquetlaw09_CycleGoes.l23_eq {R : Type} (N n : Nat) (x35 : Int) (x36 : Int) (x37 : Int) (x38 : Int) (x39 : Int) (x40 : Int) (x41 : List Int) (x42 : List Int) (k : Ex → St → Option R) :
    evLoop 0 parquetlaw09_CycleGoes.h23 (fun s k => evCode (parquetlaw09_CycleGoes.E N) 386 parquetlaw09_CycleGoes.b23 s k) n [.ptr 0 0 3, .sw 1 3, .c (.int .i64 x35), .sw 2 3, .c (.int .i64 x36), .c (.int .i64 x37)] [.vals [.c (.int .i64 x38), .c (.int .i64 x39), .c (.int .i64 x40)], .ints .i64 x41, .ints .i64 x42] k = parquetlaw09_CycleGoes.l23 N n x35 x36 x37 x38 x39 x40 x41 x42 (fun x44 x45 x46 x47 x48 => k (.exit 2) ⟨mkT parquetlaw09_CycleGoes.h23.out [.ptr 0 0 3, .sw 1 3, .c (.int .i64 x44)], [.vals [.c (.int .i64 x45), .c (.int .i64 x46), .c (.int .i64 x47)], .ints .i64 x48]⟩) (fun x43 => k (.ret (.c (.bool x43)) []) .nil) := by
  induction n generalizing x35 x36 x37 x38 x39 x40 x41 x42 with
  | zero => kernel_rfl
  | succ n ih =>
    simp only [parquetlaw09_CycleGoes.l23, ← ih]
    kernel_rfl
noncomputable def parquetlaw09_CycleGoes.dec (v : V) (bs : List Blk) : Option (Bool) := match v, bs with
  | .c (.bool z0), [] => some z0
  | _, _ => none
set_option maxRecDepth 100000 in
theorem parquetlaw09_CycleGoes.f_eq (N : Nat) (a1 : Int) (a2 : Int) (a3 : Int) :
    evFun (parquetlaw09_CycleGoes.E N) parquetlaw09_CycleGoes.body [.agg [.c (.int .i64 a1), .c (.int .i64 a2), .c (.int .i64 a3)]] [] parquetlaw09_CycleGoes.dec = parquetlaw09_CycleGoes.f N a1 a2 a3 := by kernel_rfl
noncomputable def parquetlaw09_CycleGoes.ent (N : Nat) : Entry := { A := Bool, fresh := 0, imm := [true], dec := fun args bs => match freezeL 0 (fun _ => .dead) [.recd [.any, .any, .any]] args, bs with
  | some [.agg [.c (.int .i64 a1), .c (.int .i64 a2), .c (.int .i64 a3)]], [] => some (parquetlaw09_CycleGoes.f N a1 a2 a3, fun r => .one (.c (.bool r)) [])
  | _, _ => none }
theorem parquetlaw09_CycleGoes.env (N : Nat) : EnvOK Try.prog (parquetlaw09_CycleGoes.E N) := ⟨(TyOK.cons ty2_ok (TyOK.cons ty3_ok (TyOK.cons ty4_ok (TyOK.cons ty23_ok (TyOK.cons ty24_ok (TyOK.cons ty35_ok (TyOK.cons ty44_ok (TyOK.cons ty46_ok TyOK.nil)))))))), (TabOK.cons (parquetlaw09_works.ent_ok N) (TabOK.cons (cycle_Cycle.ent_ok N) (TabOK.cons (cycle_Check.ent_ok N) (TabOK.cons (cycle_Next.ent_ok N) (TabOK.cons (parquetlaw09_back.ent_ok N) (TabOK.cons (cycle_Reduced.ent_ok N) (TabOK.cons (parquetlaw09_disc.ent_ok N) (TabOK.cons (cycle_Proper.ent_ok N) TabOK.nil))))))))⟩
theorem parquetlaw09_CycleGoes.res_eq (N : Nat) : (parquetlaw09_CycleGoes.E N).res = Try.f6.results.toList := by kernel_rfl
theorem parquetlaw09_CycleGoes.k23 (N : Nat) : CutOK Try.prog Try.f6 (parquetlaw09_CycleGoes.E N) (.loop parquetlaw09_CycleGoes.b23) := by
  intro e hd he hh R vs H k r h
  have e1 : (parquetlaw09_CycleGoes.E N).cut (loopKey parquetlaw09_CycleGoes.b23) = some (parquetlaw09_CycleGoes.c23 N) := by kernel_rfl
  have e2 : (parquetlaw09_CycleGoes.E N).hint (loopKey parquetlaw09_CycleGoes.b23) = some parquetlaw09_CycleGoes.h23 := by kernel_rfl
  rw [e1] at he; rw [e2] at hh; cases he; cases hh
  unfold parquetlaw09_CycleGoes.c23 at h; dsimp only at h
  split at h
  · rw [← parquetlaw09_CycleGoes.l23_eq] at h
    exact loop_ok (evCode_ok (parquetlaw09_CycleGoes.env N) Try_mixed (parquetlaw09_CycleGoes.res_eq N) 386 parquetlaw09_CycleGoes.b23 (AllCut.of (l := []) (by kernel_rfl) AllCut.nil)) h
  · cases h
theorem parquetlaw09_CycleGoes.k11 (N : Nat) : CutOK Try.prog Try.f6 (parquetlaw09_CycleGoes.E N) (.loop parquetlaw09_CycleGoes.b11) := by
  intro e hd he hh R vs H k r h
  have e1 : (parquetlaw09_CycleGoes.E N).cut (loopKey parquetlaw09_CycleGoes.b11) = some (parquetlaw09_CycleGoes.c11 N) := by kernel_rfl
  have e2 : (parquetlaw09_CycleGoes.E N).hint (loopKey parquetlaw09_CycleGoes.b11) = some parquetlaw09_CycleGoes.h11 := by kernel_rfl
  rw [e1] at he; rw [e2] at hh; cases he; cases hh
  unfold parquetlaw09_CycleGoes.c11 at h; dsimp only at h
  split at h
  · rw [← parquetlaw09_CycleGoes.l11_eq] at h
    exact loop_ok (evCode_ok (parquetlaw09_CycleGoes.env N) Try_mixed (parquetlaw09_CycleGoes.res_eq N) 389 parquetlaw09_CycleGoes.b11 (AllCut.of (l := []) (by kernel_rfl) AllCut.nil)) h
  · cases h
theorem parquetlaw09_CycleGoes.spec (N : Nat) (a1 : Int) (a2 : Int) (a3 : Int) (r : Bool) (h : parquetlaw09_CycleGoes.f N a1 a2 a3 = some r) : FnSpec Try.prog 6 [.agg [.c (.int .i64 a1), .c (.int .i64 a2), .c (.int .i64 a3)]] [] (.c (.bool r)) ([]) := by
  rw [← parquetlaw09_CycleGoes.f_eq] at h
  refine (evFun_ok (parquetlaw09_CycleGoes.env N) Try_mixed Try.func6 (by kernel_rfl : Try.f6.body = some parquetlaw09_CycleGoes.body) (by kernel_rfl) (parquetlaw09_CycleGoes.res_eq N) (by kernel_rfl) (by kernel_rfl) (Nat.le_of_ble_eq_true (by kernel_rfl)) (AllCut.of (l := [(.loop (inner ((subLoops parquetlaw09_CycleGoes.body).getD 0 .skip))), (.loop (inner ((subLoops parquetlaw09_CycleGoes.body).getD 1 .skip))), (.loop (inner ((subLoops parquetlaw09_CycleGoes.body).getD 2 .skip)))]) (by kernel_rfl) (AllCut.cons (parquetlaw09_CycleGoes.k11 N) (AllCut.cons (parquetlaw09_CycleGoes.k23 N) (AllCut.cons (cut_loop (by kernel_rfl)) AllCut.nil)))) h).of fun v bs' h1 => ?_
  unfold parquetlaw09_CycleGoes.dec at h1; split at h1
  · cases h1; exact ⟨rfl, rfl⟩
  · cases h1
theorem parquetlaw09_CycleGoes.ent_ok (N : Nat) : TabOK1 Try.prog 6 (parquetlaw09_CycleGoes.ent N) := by
  intro args bs a enc h
  simp only [parquetlaw09_CycleGoes.ent] at h
  split at h
  · rename_i hz; have h0 := Option.some.inj h; have h1 := congrArg Prod.fst h0; have h2 := congrArg Prod.snd h0; dsimp only at h1 h2; subst h2; exact FnSpec.of_freeze hz (parquetlaw09_CycleGoes.spec N _ _ _ a h1)
  · cases h
end Go.Proofs.Ytlofhdoefjmabaa
