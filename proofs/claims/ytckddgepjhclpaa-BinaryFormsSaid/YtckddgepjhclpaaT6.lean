-- The seat's functions as the evaluator goes through them: typed models and their laws.
import Derived.Test.YtckddgepjhclpaaProg
import Derived.Test.YtckddgepjhclpaaEvF
import Derived.Test.YtckddgepjhclpaaT5
import Derived.KernelRfl
namespace Go.Proofs.Ytckddgepjhclpaa
open Go.Proofs.Ytckddgepjhclpaa.Ev
set_option linter.unusedVariables false
open Go


/-! math/bits.LeadingZeros32: function 89 -/
noncomputable def bits_LeadingZeros32.f (N : Nat) (a1 : Int) : Option (Int) :=
  (bits_Len32.f N a1).bind fun r2 =>
  some (wi64 (32 - r2))
noncomputable def bits_LeadingZeros32.body : Code := (Try.f89.body).getD .skip
noncomputable def bits_LeadingZeros32.ty : List (Nat × TI) := []
noncomputable def bits_LeadingZeros32.E (N : Nat) : Env := { ty := lookN bits_LeadingZeros32.ty, tab := lookN [(85, bits_Len32.ent N)], hint := lookN [], cut := lookN [], N := N, res := [.tmp 2], rsh := [.any], nb := 0, ntmps := 6, own := false }
noncomputable def bits_LeadingZeros32.dec (v : V) (bs : List Blk) : Option (Int) := match v, bs with
  | .c (.int .i64 z0), [] => some z0
  | _, _ => none
set_option maxRecDepth 100000 in
theorem bits_LeadingZeros32.f_eq (N : Nat) (a1 : Int) :
    evFun (bits_LeadingZeros32.E N) bits_LeadingZeros32.body [.c (.int .u32 a1)] [] bits_LeadingZeros32.dec = bits_LeadingZeros32.f N a1 := by kernel_rfl
noncomputable def bits_LeadingZeros32.ent (N : Nat) : Entry := { A := Int, fresh := 0, imm := [true], dec := fun args bs => match freezeL 0 (fun _ => .dead) [.any] args, bs with
  | some [.c (.int .u32 a1)], [] => some (bits_LeadingZeros32.f N a1, fun r => .one (.c (.int .i64 r)) [])
  | _, _ => none }
theorem bits_LeadingZeros32.env (N : Nat) : EnvOK Try.prog (bits_LeadingZeros32.E N) := ⟨TyOK.nil, (TabOK.cons (bits_Len32.ent_ok N) TabOK.nil)⟩
theorem bits_LeadingZeros32.res_eq (N : Nat) : (bits_LeadingZeros32.E N).res = Try.f89.results.toList := by kernel_rfl
theorem bits_LeadingZeros32.spec (N : Nat) (a1 : Int) (r : Int) (h : bits_LeadingZeros32.f N a1 = some r) : FnSpec Try.prog 89 [.c (.int .u32 a1)] [] (.c (.int .i64 r)) ([]) := by
  rw [← bits_LeadingZeros32.f_eq] at h
  obtain ⟨v, bs', h1, h2⟩ := evFun_ok (bits_LeadingZeros32.env N) Try_mixed Try.func89 (by kernel_rfl : Try.f89.body = some bits_LeadingZeros32.body) (by kernel_rfl) (bits_LeadingZeros32.res_eq N) (by kernel_rfl) (by kernel_rfl) (Nat.le_of_ble_eq_true (by kernel_rfl)) (AllCut.of (l := []) (by kernel_rfl) AllCut.nil) h
  unfold bits_LeadingZeros32.dec at h1; split at h1
  · cases h1; exact h2
  · cases h1
theorem bits_LeadingZeros32.ent_ok (N : Nat) : TabOK1 Try.prog 89 (bits_LeadingZeros32.ent N) := by
  intro args bs a enc h
  simp only [bits_LeadingZeros32.ent] at h
  split at h
  · rename_i hz; have h0 := Option.some.inj h; have h1 := congrArg Prod.fst h0; have h2 := congrArg Prod.snd h0; dsimp only at h1 h2; subst h2; exact FnSpec.of_freeze hz (bits_LeadingZeros32.spec N _ a h1)
  · cases h
/-! parquet/nat.short: function 87 -/
noncomputable def nat_short.l3 {R : Type} (N : Nat) : Nat → Nat → Nat → Int → Int → Int → List Int → (Int → List Int → Option R) → Option R
  | 0, _, _, _, _, _, _, _ => none
  | n + 1, x5, x6, x7, x8, x9, x10, k0 =>
    bif decide (x9 ≥ 0) then
      bif (decide (0 ≤ x9)) && (decide (x9 < (x6 : Int))) then
        bif !((wu64 x7) == 0) then
          bif !((wu64 x7) == 0) then
            bif (decide (0 ≤ x9)) && (decide (x9 < (x6 : Int))) then
              nat_short.l3 N n x5 x6 x7 (Int.tmod (bit_or .u64 (wu64 (x8 * 2 ^ 32)) (wu64 (x10.getD (x5 + x9.toNat) 0))) (wu64 x7)) (wi64 (x9 - 1)) (x10.set (x5 + x9.toNat) (wu32 (wu64 (Int.tdiv (bit_or .u64 (wu64 (x8 * 2 ^ 32)) (wu64 (x10.getD (x5 + x9.toNat) 0))) (wu64 x7))))) k0
            else none
          else none
        else none
      else none
    else
    k0 x8 x10
noncomputable def nat_short.f (N : Nat) (a1 : Nat) (a2 : Nat) (a3 : Int) (a4 : List Int) : Option (Int × List Int) :=
  nat_short.l3 N N a1 a2 a3 0 (wi64 ((a2 : Int) - 1)) a4
    (fun y13 y14 =>
      some (wu32 y13, y14))
noncomputable def nat_short.body : Code := (Try.f87.body).getD .skip
noncomputable def nat_short.ty : List (Nat × TI) := [(54, ty54), (92, ty92), (107, ty107)]
noncomputable def nat_short.h3 : Hint := ⟨[(0, .any), (1, .any), (5, .any), (6, .any)], [(5, .any)]⟩
noncomputable def nat_short.c3 (N : Nat) : Cut := ⟨fun vs H k => match vs, H with
  | [.sl 0 1 x5 x6, .c (.int .u32 x7), .c (.int .u64 x8), .c (.int .i64 x9)], [.ints .u32 x10] => nat_short.l3 N N x5 x6 x7 x8 x9 x10 (fun x11 x12 => k (.exit 0) ⟨mkT nat_short.h3.out [.c (.int .u64 x11)], [.ints .u32 x12]⟩)
  | _, _ => none⟩
noncomputable def nat_short.E (N : Nat) : Env := { ty := lookN nat_short.ty, tab := lookN [], hint := lookN [(3, nat_short.h3)], cut := lookN [(3, nat_short.c3 N)], N := N, res := [.tmp 4], rsh := [.any], nb := 1, ntmps := 37, own := false }
noncomputable def nat_short.b3 : Code := inner ((subLoops nat_short.body).getD 0 .skip)
set_option maxRecDepth 100000 in
theorem nat_short.l3_eq {R : Type} (N n : Nat) (x5 : Nat) (x6 : Nat) (x7 : Int) (x8 : Int) (x9 : Int) (x10 : List Int) (k : Ex → St → Option R) :
    evLoop 1 nat_short.h3 (fun s k => evCode (nat_short.E N) 394 nat_short.b3 s k) n [.sl 0 1 x5 x6, .c (.int .u32 x7), .c (.int .u64 x8), .c (.int .i64 x9)] [.ints .u32 x10] k = nat_short.l3 N n x5 x6 x7 x8 x9 x10 (fun x11 x12 => k (.exit 0) ⟨mkT nat_short.h3.out [.c (.int .u64 x11)], [.ints .u32 x12]⟩) := by
  induction n generalizing x5 x6 x7 x8 x9 x10 with
  | zero => kernel_rfl
  | succ n ih =>
    simp only [nat_short.l3, ← ih]
    kernel_rfl
noncomputable def nat_short.dec (v : V) (bs : List Blk) : Option (Int × List Int) := match v, bs with
  | .c (.int .u32 z0), [.ints .u32 z1] => some (z0, z1)
  | _, _ => none
set_option maxRecDepth 100000 in
theorem nat_short.f_eq (N : Nat) (a1 : Nat) (a2 : Nat) (a3 : Int) (a4 : List Int) :
    evFun (nat_short.E N) nat_short.body [.sl 0 1 a1 a2, .c (.int .u32 a3)] [.ints .u32 a4] nat_short.dec = nat_short.f N a1 a2 a3 a4 := by kernel_rfl
noncomputable def nat_short.ent (N : Nat) : Entry := { A := Int × List Int, fresh := 0, imm := [false, true], dec := fun args bs => match asSlL (blkAt bs) [true, false] args, bs with
  | [.sl 0 1 a1 a2, .c (.int .u32 a3)], [.ints .u32 a4] => some (nat_short.f N a1 a2 a3 a4, fun r => .one (.c (.int .u32 r.1)) [.ints .u32 r.2])
  | _, _ => none }
theorem nat_short.env (N : Nat) : EnvOK Try.prog (nat_short.E N) := ⟨(TyOK.cons ty54_ok (TyOK.cons ty92_ok (TyOK.cons ty107_ok TyOK.nil))), TabOK.nil⟩
theorem nat_short.res_eq (N : Nat) : (nat_short.E N).res = Try.f87.results.toList := by kernel_rfl
theorem nat_short.k3 (N : Nat) : CutOK Try.prog Try.f87 (nat_short.E N) (.loop nat_short.b3) := by
  intro e hd he hh R vs H k r h
  have e1 : (nat_short.E N).cut (loopKey nat_short.b3) = some (nat_short.c3 N) := by kernel_rfl
  have e2 : (nat_short.E N).hint (loopKey nat_short.b3) = some nat_short.h3 := by kernel_rfl
  rw [e1] at he; rw [e2] at hh; cases he; cases hh
  unfold nat_short.c3 at h; dsimp only at h
  split at h
  · rw [← nat_short.l3_eq] at h
    exact loop_ok (evCode_ok (nat_short.env N) Try_mixed (nat_short.res_eq N) 394 nat_short.b3 (AllCut.of (l := []) (by kernel_rfl) AllCut.nil)) h
  · cases h
theorem nat_short.spec (N : Nat) (a1 : Nat) (a2 : Nat) (a3 : Int) (a4 : List Int) (r : Int × List Int) (h : nat_short.f N a1 a2 a3 a4 = some r) : FnSpec Try.prog 87 [.sl 0 1 a1 a2, .c (.int .u32 a3)] [.ints .u32 a4] (.c (.int .u32 r.1)) ([.ints .u32 r.2]) := by
  rw [← nat_short.f_eq] at h
  obtain ⟨v, bs', h1, h2⟩ := evFun_ok (nat_short.env N) Try_mixed Try.func87 (by kernel_rfl : Try.f87.body = some nat_short.body) (by kernel_rfl) (nat_short.res_eq N) (by kernel_rfl) (by kernel_rfl) (Nat.le_of_ble_eq_true (by kernel_rfl)) (AllCut.of (l := [(.loop (inner ((subLoops nat_short.body).getD 0 .skip)))]) (by kernel_rfl) (AllCut.cons (nat_short.k3 N) AllCut.nil)) h
  unfold nat_short.dec at h1; split at h1
  · cases h1; exact h2
  · cases h1
theorem nat_short.ent_ok (N : Nat) : TabOK1 Try.prog 87 (nat_short.ent N) := by
  intro args bs a enc h
  simp only [nat_short.ent] at h
  split at h
  · rename_i hz; have h0 := Option.some.inj h; have h1 := congrArg Prod.fst h0; have h2 := congrArg Prod.snd h0; dsimp only at h1 h2; subst h2; exact FnSpec.of_asSl (fl := [true, false]) (by rw [hz]; exact nat_short.spec N _ _ _ _ a h1)
  · cases h
/-! parquet/nat.up: function 90 -/
noncomputable def nat_up.l4 {R : Type} (N : Nat) : Nat → List Int → Int → Int → Int → Int → List Int → (List Int → Option R) → Option R
  | 0, _, _, _, _, _, _, _ => none
  | n + 1, x4, x5, x6, x7, x8, x9, k0 =>
    bif decide (x8 < x7) then
      bif decide (x8 < (x4.length : Int)) then
        bif (decide (0 ≤ x8)) && (decide (x8 < (x4.length : Int))) then
          bif decide (0 ≤ x5) then
            bif (decide (0 ≤ x8)) && (decide (x8 < (x9.length : Int))) then
              nat_up.l4 N n x4 x5 (Int.fdiv (bit_or .u64 x6 (wu64 ((wu64 (x4.getD x8.toNat 0)) * 2 ^ (min x5.toNat 64)))) (2 ^ 32)) x7 (wi64 (x8 + 1)) (x9.set x8.toNat (wu32 (bit_or .u64 x6 (wu64 ((wu64 (x4.getD x8.toNat 0)) * 2 ^ (min x5.toNat 64)))))) k0
            else none
          else none
        else none
      else
      bif (decide (0 ≤ x8)) && (decide (x8 < (x9.length : Int))) then
        nat_up.l4 N n x4 x5 (Int.fdiv x6 (2 ^ 32)) x7 (wi64 (x8 + 1)) (x9.set x8.toNat (wu32 x6)) k0
      else none
    else
    k0 x9
noncomputable def nat_up.f (N : Nat) (a1 : List Int) (a2 : Int) (a3 : Int) : Option (List Int) :=
  bif decide (a3 = a3) && decide (0 ≤ a3) && decide (a3 ≤ 9223372036854775807) && roomy a3.toNat 4 then
    nat_up.l4 N N a1 a2 0 ((List.replicate a3.toNat (0 : Int)).length : Int) 0 (List.replicate a3.toNat (0 : Int))
      (fun y11 =>
        some y11)
  else none
noncomputable def nat_up.body : Code := (Try.f90.body).getD .skip
noncomputable def nat_up.ty : List (Nat × TI) := [(54, ty54), (92, ty92), (107, ty107)]
noncomputable def nat_up.h4 : Hint := ⟨[(0, .il .u32 1), (1, .any), (7, .row .u32 1), (8, .any), (13, .any), (14, .any)], [(7, .row .u32 1)]⟩
noncomputable def nat_up.c4 (N : Nat) : Cut := ⟨fun vs H k => match vs, H with
  | [.il .u32 1 x4, .c (.int .i64 x5), .sw 0 1, .c (.int .u64 x6), .c (.int .i64 x7), .c (.int .i64 x8)], [.ints .u32 x9] => nat_up.l4 N N x4 x5 x6 x7 x8 x9 (fun x10 => k (.exit 0) ⟨mkT nat_up.h4.out [.sw 0 1], [.ints .u32 x10]⟩)
  | _, _ => none⟩
noncomputable def nat_up.E (N : Nat) : Env := { ty := lookN nat_up.ty, tab := lookN [], hint := lookN [(4, nat_up.h4)], cut := lookN [(4, nat_up.c4 N)], N := N, res := [.tmp 6], rsh := [.row .u32 1], nb := 0, ntmps := 39, own := true }
noncomputable def nat_up.b4 : Code := inner ((subLoops nat_up.body).getD 0 .skip)
set_option maxRecDepth 100000 in
theorem nat_up.l4_eq {R : Type} (N n : Nat) (x4 : List Int) (x5 : Int) (x6 : Int) (x7 : Int) (x8 : Int) (x9 : List Int) (k : Ex → St → Option R) :
    evLoop 0 nat_up.h4 (fun s k => evCode (nat_up.E N) 393 nat_up.b4 s k) n [.il .u32 1 x4, .c (.int .i64 x5), .sw 0 1, .c (.int .u64 x6), .c (.int .i64 x7), .c (.int .i64 x8)] [.ints .u32 x9] k = nat_up.l4 N n x4 x5 x6 x7 x8 x9 (fun x10 => k (.exit 0) ⟨mkT nat_up.h4.out [.sw 0 1], [.ints .u32 x10]⟩) := by
  induction n generalizing x4 x5 x6 x7 x8 x9 with
  | zero => kernel_rfl
  | succ n ih =>
    simp only [nat_up.l4, ← ih]
    kernel_rfl
noncomputable def nat_up.dec (v : V) (bs : List Blk) : Option (List Int) := match v, bs with
  | .sw 0 1, [.ints .u32 z0] => some z0
  | _, _ => none
set_option maxRecDepth 100000 in
theorem nat_up.f_eq (N : Nat) (a1 : List Int) (a2 : Int) (a3 : Int) :
    evFun (nat_up.E N) nat_up.body [.il .u32 1 a1, .c (.int .i64 a2), .c (.int .i64 a3)] [] nat_up.dec = nat_up.f N a1 a2 a3 := by kernel_rfl
noncomputable def nat_up.ent (N : Nat) : Entry := { A := List Int, fresh := 1, imm := [true, true, true], dec := fun args bs => match freezeL 0 (fun _ => .dead) [.il .u32 1, .any, .any] args, bs with
  | some [.il .u32 1 a1, .c (.int .i64 a2), .c (.int .i64 a3)], [] => some (nat_up.f N a1 a2 a3, fun r => .one (.sw 0 1) [.ints .u32 r])
  | _, _ => none }
theorem nat_up.env (N : Nat) : EnvOK Try.prog (nat_up.E N) := ⟨(TyOK.cons ty54_ok (TyOK.cons ty92_ok (TyOK.cons ty107_ok TyOK.nil))), TabOK.nil⟩
theorem nat_up.res_eq (N : Nat) : (nat_up.E N).res = Try.f90.results.toList := by kernel_rfl
theorem nat_up.k4 (N : Nat) : CutOK Try.prog Try.f90 (nat_up.E N) (.loop nat_up.b4) := by
  intro e hd he hh R vs H k r h
  have e1 : (nat_up.E N).cut (loopKey nat_up.b4) = some (nat_up.c4 N) := by kernel_rfl
  have e2 : (nat_up.E N).hint (loopKey nat_up.b4) = some nat_up.h4 := by kernel_rfl
  rw [e1] at he; rw [e2] at hh; cases he; cases hh
  unfold nat_up.c4 at h; dsimp only at h
  split at h
  · rw [← nat_up.l4_eq] at h
    exact loop_ok (evCode_ok (nat_up.env N) Try_mixed (nat_up.res_eq N) 393 nat_up.b4 (AllCut.of (l := []) (by kernel_rfl) AllCut.nil)) h
  · cases h
theorem nat_up.spec (N : Nat) (a1 : List Int) (a2 : Int) (a3 : Int) (r : List Int) (h : nat_up.f N a1 a2 a3 = some r) : FnSpec Try.prog 90 [.il .u32 1 a1, .c (.int .i64 a2), .c (.int .i64 a3)] [] (.sw 0 1) ([.ints .u32 r]) := by
  rw [← nat_up.f_eq] at h
  obtain ⟨v, bs', h1, h2⟩ := evFun_ok (nat_up.env N) Try_mixed Try.func90 (by kernel_rfl : Try.f90.body = some nat_up.body) (by kernel_rfl) (nat_up.res_eq N) (by kernel_rfl) (by kernel_rfl) (Nat.le_of_ble_eq_true (by kernel_rfl)) (AllCut.of (l := [(.loop (inner ((subLoops nat_up.body).getD 0 .skip)))]) (by kernel_rfl) (AllCut.cons (nat_up.k4 N) AllCut.nil)) h
  unfold nat_up.dec at h1; split at h1
  · cases h1; exact h2
  · cases h1
theorem nat_up.ent_ok (N : Nat) : TabOK1 Try.prog 90 (nat_up.ent N) := by
  intro args bs a enc h
  simp only [nat_up.ent] at h
  split at h
  · rename_i hz; have h0 := Option.some.inj h; have h1 := congrArg Prod.fst h0; have h2 := congrArg Prod.snd h0; dsimp only at h1 h2; subst h2; exact FnSpec.of_freeze hz (nat_up.spec N _ _ _ a h1)
  · cases h
/-! parquet/nat.down: function 92 -/
noncomputable def nat_down.l3 {R : Type} (N : Nat) : Nat → List Int → Int → Int → Int → List Int → (List Int → Option R) → Option R
  | 0, _, _, _, _, _, _ => none
  | n + 1, x3, x4, x5, x6, x7, k0 =>
    bif decide (x6 < x5) then
      bif (decide (0 ≤ x6)) && (decide (x6 < (x3.length : Int))) then
        bif decide ((wi64 (x6 + 1)) < (x3.length : Int)) then
          bif (decide (0 ≤ (wi64 (x6 + 1)))) && (decide ((wi64 (x6 + 1)) < (x3.length : Int))) then
            bif decide (0 ≤ x4) then
              bif (decide (0 ≤ x6)) && (decide (x6 < (x7.length : Int))) then
                nat_down.l3 N n x3 x4 x5 (wi64 (x6 + 1)) (x7.set x6.toNat (wu32 (Int.fdiv (bit_or .u64 (wu64 (x3.getD x6.toNat 0)) (wu64 ((wu64 (x3.getD ((wi64 (x6 + 1)).toNat) 0)) * 2 ^ 32))) (2 ^ (min x4.toNat 64))))) k0
              else none
            else none
          else none
        else
        bif decide (0 ≤ x4) then
          bif (decide (0 ≤ x6)) && (decide (x6 < (x7.length : Int))) then
            nat_down.l3 N n x3 x4 x5 (wi64 (x6 + 1)) (x7.set x6.toNat (wu32 (Int.fdiv (wu64 (x3.getD x6.toNat 0)) (2 ^ (min x4.toNat 64))))) k0
          else none
        else none
      else none
    else
    k0 x7
noncomputable def nat_down.f (N : Nat) (a1 : List Int) (a2 : Int) : Option (List Int) :=
  bif decide ((a1.length : Int) = (a1.length : Int)) && decide (0 ≤ (a1.length : Int)) && decide ((a1.length : Int) ≤ 9223372036854775807) && roomy ((a1.length : Int).toNat) 4 then
    nat_down.l3 N N a1 a2 (a1.length : Int) 0 (List.replicate ((a1.length : Int).toNat) (0 : Int))
      (fun y9 =>
        (nat_cut.f N 0 y9.length y9).bind fun r10 =>
        some ((r10.2.2.drop r10.1).take r10.2.1))
  else none
noncomputable def nat_down.body : Code := (Try.f92.body).getD .skip
noncomputable def nat_down.ty : List (Nat × TI) := [(54, ty54), (56, ty56), (92, ty92), (107, ty107)]
noncomputable def nat_down.h3 : Hint := ⟨[(0, .il .u32 1), (1, .any), (4, .box [.any]), (5, .row .u32 1), (12, .any), (13, .any)], [(4, .box [.any]), (5, .row .u32 1)]⟩
noncomputable def nat_down.c3 (N : Nat) : Cut := ⟨fun vs H k => match vs, H with
  | [.il .u32 1 x3, .c (.int .i64 x4), .ptr 0 0 1, .sw 1 1, .c (.int .i64 x5), .c (.int .i64 x6)], [.vals [.c (.slice none 0 0)], .ints .u32 x7] => nat_down.l3 N N x3 x4 x5 x6 x7 (fun x8 => k (.exit 0) ⟨mkT nat_down.h3.out [.ptr 0 0 1, .sw 1 1], [.vals [.c (.slice none 0 0)], .ints .u32 x8]⟩)
  | _, _ => none⟩
noncomputable def nat_down.E (N : Nat) : Env := { ty := lookN nat_down.ty, tab := lookN [(74, nat_cut.ent N)], hint := lookN [(3, nat_down.h3)], cut := lookN [(3, nat_down.c3 N)], N := N, res := [.cell 4 56], rsh := [.recd [.il .u32 1]], nb := 0, ntmps := 45, own := false }
noncomputable def nat_down.b3 : Code := inner ((subLoops nat_down.body).getD 0 .skip)
set_option maxRecDepth 100000 in
theorem nat_down.l3_eq {R : Type} (N n : Nat) (x3 : List Int) (x4 : Int) (x5 : Int) (x6 : Int) (x7 : List Int) (k : Ex → St → Option R) :
    evLoop 0 nat_down.h3 (fun s k => evCode (nat_down.E N) 394 nat_down.b3 s k) n [.il .u32 1 x3, .c (.int .i64 x4), .ptr 0 0 1, .sw 1 1, .c (.int .i64 x5), .c (.int .i64 x6)] [.vals [.c (.slice none 0 0)], .ints .u32 x7] k = nat_down.l3 N n x3 x4 x5 x6 x7 (fun x8 => k (.exit 0) ⟨mkT nat_down.h3.out [.ptr 0 0 1, .sw 1 1], [.vals [.c (.slice none 0 0)], .ints .u32 x8]⟩) := by
  induction n generalizing x3 x4 x5 x6 x7 with
  | zero => kernel_rfl
  | succ n ih =>
    simp only [nat_down.l3, ← ih]
    kernel_rfl
noncomputable def nat_down.dec (v : V) (bs : List Blk) : Option (List Int) := match v, bs with
  | .agg [.il .u32 1 z0], [] => some z0
  | _, _ => none
set_option maxRecDepth 100000 in
theorem nat_down.f_eq (N : Nat) (a1 : List Int) (a2 : Int) :
    evFun (nat_down.E N) nat_down.body [.il .u32 1 a1, .c (.int .i64 a2)] [] nat_down.dec = nat_down.f N a1 a2 := by kernel_rfl
noncomputable def nat_down.ent (N : Nat) : Entry := { A := List Int, fresh := 0, imm := [true, true], dec := fun args bs => match freezeL 0 (fun _ => .dead) [.il .u32 1, .any] args, bs with
  | some [.il .u32 1 a1, .c (.int .i64 a2)], [] => some (nat_down.f N a1 a2, fun r => .one (.agg [.il .u32 1 r]) [])
  | _, _ => none }
theorem nat_down.env (N : Nat) : EnvOK Try.prog (nat_down.E N) := ⟨(TyOK.cons ty54_ok (TyOK.cons ty56_ok (TyOK.cons ty92_ok (TyOK.cons ty107_ok TyOK.nil)))), (TabOK.cons (nat_cut.ent_ok N) TabOK.nil)⟩
theorem nat_down.res_eq (N : Nat) : (nat_down.E N).res = Try.f92.results.toList := by kernel_rfl
theorem nat_down.k3 (N : Nat) : CutOK Try.prog Try.f92 (nat_down.E N) (.loop nat_down.b3) := by
  intro e hd he hh R vs H k r h
  have e1 : (nat_down.E N).cut (loopKey nat_down.b3) = some (nat_down.c3 N) := by kernel_rfl
  have e2 : (nat_down.E N).hint (loopKey nat_down.b3) = some nat_down.h3 := by kernel_rfl
  rw [e1] at he; rw [e2] at hh; cases he; cases hh
  unfold nat_down.c3 at h; dsimp only at h
  split at h
  · rw [← nat_down.l3_eq] at h
    exact loop_ok (evCode_ok (nat_down.env N) Try_mixed (nat_down.res_eq N) 394 nat_down.b3 (AllCut.of (l := []) (by kernel_rfl) AllCut.nil)) h
  · cases h
theorem nat_down.spec (N : Nat) (a1 : List Int) (a2 : Int) (r : List Int) (h : nat_down.f N a1 a2 = some r) : FnSpec Try.prog 92 [.il .u32 1 a1, .c (.int .i64 a2)] [] (.agg [.il .u32 1 r]) ([]) := by
  rw [← nat_down.f_eq] at h
  obtain ⟨v, bs', h1, h2⟩ := evFun_ok (nat_down.env N) Try_mixed Try.func92 (by kernel_rfl : Try.f92.body = some nat_down.body) (by kernel_rfl) (nat_down.res_eq N) (by kernel_rfl) (by kernel_rfl) (Nat.le_of_ble_eq_true (by kernel_rfl)) (AllCut.of (l := [(.loop (inner ((subLoops nat_down.body).getD 0 .skip)))]) (by kernel_rfl) (AllCut.cons (nat_down.k3 N) AllCut.nil)) h
  unfold nat_down.dec at h1; split at h1
  · cases h1; exact h2
  · cases h1
theorem nat_down.ent_ok (N : Nat) : TabOK1 Try.prog 92 (nat_down.ent N) := by
  intro args bs a enc h
  simp only [nat_down.ent] at h
  split at h
  · rename_i hz; have h0 := Option.some.inj h; have h1 := congrArg Prod.fst h0; have h2 := congrArg Prod.snd h0; dsimp only at h1 h2; subst h2; exact FnSpec.of_freeze hz (nat_down.spec N _ _ a h1)
  · cases h
/-! parquet/nat.away: function 91 -/
noncomputable def nat_away.l3 {R : Type} (N : Nat) : Nat → Nat → Nat → List Int → Int → Int → Int → Int → Int → List Int → (Int → List Int → Option R) → Option R
  | 0, _, _, _, _, _, _, _, _, _, _ => none
  | n + 1, x6, x7, x8, x9, x10, x11, x12, x13, x14, k0 =>
    bif decide (x13 < x12) then
      bif decide (x13 < (x8.length : Int)) then
        bif (decide (0 ≤ x13)) && (decide (x13 < (x8.length : Int))) then
          bif (decide (0 ≤ x13)) && (decide (x13 < (x7 : Int))) then
            (bits_Sub32.f N (x14.getD (x6 + x13.toNat) 0) (wu32 (wu64 (x10 + (wu64 ((wu64 (x8.getD x13.toNat 0)) * (wu64 x9)))))) x11).bind fun r15 =>
            bif (decide (0 ≤ x13)) && (decide (x13 < (x7 : Int))) then
              nat_away.l3 N n x6 x7 x8 x9 (Int.fdiv (wu64 (x10 + (wu64 ((wu64 (x8.getD x13.toNat 0)) * (wu64 x9))))) (2 ^ 32)) r15.2 x12 (wi64 (x13 + 1)) (x14.set (x6 + x13.toNat) r15.1) k0
            else none
          else none
        else none
      else
      bif (decide (0 ≤ x13)) && (decide (x13 < (x7 : Int))) then
        (bits_Sub32.f N (x14.getD (x6 + x13.toNat) 0) (wu32 x10) x11).bind fun r16 =>
        bif (decide (0 ≤ x13)) && (decide (x13 < (x7 : Int))) then
          nat_away.l3 N n x6 x7 x8 x9 (Int.fdiv x10 (2 ^ 32)) r16.2 x12 (wi64 (x13 + 1)) (x14.set (x6 + x13.toNat) r16.1) k0
        else none
      else none
    else
    k0 x11 x14
noncomputable def nat_away.f (N : Nat) (a1 : Nat) (a2 : Nat) (a3 : List Int) (a4 : Int) (a5 : List Int) : Option (Bool × List Int) :=
  nat_away.l3 N N a1 a2 a3 a4 0 0 (a2 : Int) 0 a5
    (fun y19 y20 =>
      some (y19 != 0, y20))
noncomputable def nat_away.body : Code := (Try.f91.body).getD .skip
noncomputable def nat_away.ty : List (Nat × TI) := [(54, ty54), (92, ty92), (107, ty107)]
noncomputable def nat_away.h3 : Hint := ⟨[(0, .any), (1, .il .u32 1), (2, .any), (7, .any), (8, .any), (11, .any), (12, .any)], [(8, .any)]⟩
noncomputable def nat_away.c3 (N : Nat) : Cut := ⟨fun vs H k => match vs, H with
  | [.sl 0 1 x6 x7, .il .u32 1 x8, .c (.int .u32 x9), .c (.int .u64 x10), .c (.int .u32 x11), .c (.int .i64 x12), .c (.int .i64 x13)], [.ints .u32 x14] => nat_away.l3 N N x6 x7 x8 x9 x10 x11 x12 x13 x14 (fun x17 x18 => k (.exit 0) ⟨mkT nat_away.h3.out [.c (.int .u32 x17)], [.ints .u32 x18]⟩)
  | _, _ => none⟩
noncomputable def nat_away.E (N : Nat) : Env := { ty := lookN nat_away.ty, tab := lookN [(86, bits_Sub32.ent N)], hint := lookN [(3, nat_away.h3)], cut := lookN [(3, nat_away.c3 N)], N := N, res := [.tmp 6], rsh := [.any], nb := 1, ntmps := 48, own := false }
noncomputable def nat_away.b3 : Code := inner ((subLoops nat_away.body).getD 0 .skip)
set_option maxRecDepth 100000 in
theorem nat_away.l3_eq {R : Type} (N n : Nat) (x6 : Nat) (x7 : Nat) (x8 : List Int) (x9 : Int) (x10 : Int) (x11 : Int) (x12 : Int) (x13 : Int) (x14 : List Int) (k : Ex → St → Option R) :
    evLoop 1 nat_away.h3 (fun s k => evCode (nat_away.E N) 394 nat_away.b3 s k) n [.sl 0 1 x6 x7, .il .u32 1 x8, .c (.int .u32 x9), .c (.int .u64 x10), .c (.int .u32 x11), .c (.int .i64 x12), .c (.int .i64 x13)] [.ints .u32 x14] k = nat_away.l3 N n x6 x7 x8 x9 x10 x11 x12 x13 x14 (fun x17 x18 => k (.exit 0) ⟨mkT nat_away.h3.out [.c (.int .u32 x17)], [.ints .u32 x18]⟩) := by
  induction n generalizing x6 x7 x8 x9 x10 x11 x12 x13 x14 with
  | zero => kernel_rfl
  | succ n ih =>
    simp only [nat_away.l3, ← ih]
    kernel_rfl
noncomputable def nat_away.dec (v : V) (bs : List Blk) : Option (Bool × List Int) := match v, bs with
  | .c (.bool z0), [.ints .u32 z1] => some (z0, z1)
  | _, _ => none
set_option maxRecDepth 100000 in
theorem nat_away.f_eq (N : Nat) (a1 : Nat) (a2 : Nat) (a3 : List Int) (a4 : Int) (a5 : List Int) :
    evFun (nat_away.E N) nat_away.body [.sl 0 1 a1 a2, .il .u32 1 a3, .c (.int .u32 a4)] [.ints .u32 a5] nat_away.dec = nat_away.f N a1 a2 a3 a4 a5 := by kernel_rfl
noncomputable def nat_away.ent (N : Nat) : Entry := { A := Bool × List Int, fresh := 0, imm := [false, true, true], dec := fun args bs => match asSlL (blkAt bs) [true, false, false] args, bs with
  | [.sl 0 1 a1 a2, .il .u32 1 a3, .c (.int .u32 a4)], [.ints .u32 a5] => some (nat_away.f N a1 a2 a3 a4 a5, fun r => .one (.c (.bool r.1)) [.ints .u32 r.2])
  | _, _ => none }
theorem nat_away.env (N : Nat) : EnvOK Try.prog (nat_away.E N) := ⟨(TyOK.cons ty54_ok (TyOK.cons ty92_ok (TyOK.cons ty107_ok TyOK.nil))), (TabOK.cons (bits_Sub32.ent_ok N) TabOK.nil)⟩
theorem nat_away.res_eq (N : Nat) : (nat_away.E N).res = Try.f91.results.toList := by kernel_rfl
theorem nat_away.k3 (N : Nat) : CutOK Try.prog Try.f91 (nat_away.E N) (.loop nat_away.b3) := by
  intro e hd he hh R vs H k r h
  have e1 : (nat_away.E N).cut (loopKey nat_away.b3) = some (nat_away.c3 N) := by kernel_rfl
  have e2 : (nat_away.E N).hint (loopKey nat_away.b3) = some nat_away.h3 := by kernel_rfl
  rw [e1] at he; rw [e2] at hh; cases he; cases hh
  unfold nat_away.c3 at h; dsimp only at h
  split at h
  · rw [← nat_away.l3_eq] at h
    exact loop_ok (evCode_ok (nat_away.env N) Try_mixed (nat_away.res_eq N) 394 nat_away.b3 (AllCut.of (l := []) (by kernel_rfl) AllCut.nil)) h
  · cases h
theorem nat_away.spec (N : Nat) (a1 : Nat) (a2 : Nat) (a3 : List Int) (a4 : Int) (a5 : List Int) (r : Bool × List Int) (h : nat_away.f N a1 a2 a3 a4 a5 = some r) : FnSpec Try.prog 91 [.sl 0 1 a1 a2, .il .u32 1 a3, .c (.int .u32 a4)] [.ints .u32 a5] (.c (.bool r.1)) ([.ints .u32 r.2]) := by
  rw [← nat_away.f_eq] at h
  obtain ⟨v, bs', h1, h2⟩ := evFun_ok (nat_away.env N) Try_mixed Try.func91 (by kernel_rfl : Try.f91.body = some nat_away.body) (by kernel_rfl) (nat_away.res_eq N) (by kernel_rfl) (by kernel_rfl) (Nat.le_of_ble_eq_true (by kernel_rfl)) (AllCut.of (l := [(.loop (inner ((subLoops nat_away.body).getD 0 .skip)))]) (by kernel_rfl) (AllCut.cons (nat_away.k3 N) AllCut.nil)) h
  unfold nat_away.dec at h1; split at h1
  · cases h1; exact h2
  · cases h1
theorem nat_away.ent_ok (N : Nat) : TabOK1 Try.prog 91 (nat_away.ent N) := by
  intro args bs a enc h
  simp only [nat_away.ent] at h
  split at h
  · rename_i hz; have h0 := Option.some.inj h; have h1 := congrArg Prod.fst h0; have h2 := congrArg Prod.snd h0; dsimp only at h1 h2; subst h2; exact FnSpec.of_asSl (fl := [true, false, false]) (by rw [hz]; exact nat_away.spec N _ _ _ _ _ a h1)
  · cases h
/-! parquet/nat.long: function 88 -/
noncomputable def nat_long.l11 {R : Type} (N : Nat) : Nat → Int → Int → Int → Int → Int → List Int → List Int → List Int → (Int → Int → Int → Int → List Int → List Int → List Int → Option R) → Option R
  | 0, _, _, _, _, _, _, _, _, _ => none
  | n + 1, x12, x13, x14, x15, x16, x17, x18, x19, k2 =>
    bif (Int.fdiv x15 (2 ^ 32)) != 0 then
      bif (decide (0 ≤ (wi64 (x12 - 1)))) && (decide ((wi64 (x12 - 1)) < (x17.length : Int))) then
        bif (Int.fdiv (wu64 (x16 + (wu64 (x17.getD ((wi64 (x12 - 1)).toNat) 0)))) (2 ^ 32)) != 0 then
          k2 x12 x13 x14 (wu64 (x15 - 1)) x17 x18 x19
        else
        nat_long.l11 N n x12 x13 x14 (wu64 (x15 - 1)) (wu64 (x16 + (wu64 (x17.getD ((wi64 (x12 - 1)).toNat) 0)))) x17 x18 x19 k2
      else none
    else
    bif (decide (0 ≤ (wi64 (x12 - 2)))) && (decide ((wi64 (x12 - 2)) < (x17.length : Int))) then
      bif (decide (0 ≤ (wi64 ((wi64 (x14 + x12)) - 2)))) && (decide ((wi64 ((wi64 (x14 + x12)) - 2)) < (x18.length : Int))) then
        bif decide ((wu64 (x15 * (wu64 (x17.getD ((wi64 (x12 - 2)).toNat) 0)))) > (bit_or .u64 (wu64 (x16 * 2 ^ 32)) (wu64 (x18.getD ((wi64 ((wi64 (x14 + x12)) - 2)).toNat) 0)))) then
          bif (decide (0 ≤ (wi64 (x12 - 1)))) && (decide ((wi64 (x12 - 1)) < (x17.length : Int))) then
            bif (Int.fdiv (wu64 (x16 + (wu64 (x17.getD ((wi64 (x12 - 1)).toNat) 0)))) (2 ^ 32)) != 0 then
              k2 x12 x13 x14 (wu64 (x15 - 1)) x17 x18 x19
            else
            nat_long.l11 N n x12 x13 x14 (wu64 (x15 - 1)) (wu64 (x16 + (wu64 (x17.getD ((wi64 (x12 - 1)).toNat) 0)))) x17 x18 x19 k2
          else none
        else
        k2 x12 x13 x14 x15 x17 x18 x19
      else none
    else none
noncomputable def nat_long.l21 {R : Type} (N : Nat) : Nat → Int → Int → Int → Nat → Nat → Int → Int → Int → List Int → List Int → List Int → (Int → Int → Int → List Int → List Int → List Int → Option R) → Option R
  | 0, _, _, _, _, _, _, _, _, _, _, _, _ => none
  | n + 1, x35, x36, x37, x38, x39, x40, x41, x42, x43, x44, x45, k4 =>
    bif decide (x42 < x41) then
      bif (decide (0 ≤ x42)) && (decide (x42 < (x39 : Int))) then
        bif decide (x42 < x35) then
          bif (decide (0 ≤ x42)) && (decide (x42 < (x43.length : Int))) then
            bif (decide (0 ≤ x42)) && (decide (x42 < (x39 : Int))) then
              nat_long.l21 N n x35 x36 x37 x38 x39 (Int.fdiv (wu64 ((wu64 (x40 + (wu64 (x44.getD (x38 + x42.toNat) 0)))) + (wu64 (x43.getD x42.toNat 0)))) (2 ^ 32)) x41 (wi64 (x42 + 1)) x43 (x44.set (x38 + x42.toNat) (wu32 (wu64 ((wu64 (x40 + (wu64 (x44.getD (x38 + x42.toNat) 0)))) + (wu64 (x43.getD x42.toNat 0)))))) x45 k4
            else none
          else none
        else
        bif (decide (0 ≤ x42)) && (decide (x42 < (x39 : Int))) then
          nat_long.l21 N n x35 x36 x37 x38 x39 (Int.fdiv (wu64 (x40 + (wu64 (x44.getD (x38 + x42.toNat) 0)))) (2 ^ 32)) x41 (wi64 (x42 + 1)) x43 (x44.set (x38 + x42.toNat) (wu32 (wu64 (x40 + (wu64 (x44.getD (x38 + x42.toNat) 0)))))) x45 k4
        else none
      else none
    else
    k4 x35 x36 x37 x43 x44 x45
noncomputable def nat_long.l7 {R : Type} (N : Nat) : Nat → Int → Int → Int → List Int → List Int → List Int → (Int → List Int → List Int → Option R) → Option R
  | 0, _, _, _, _, _, _, _ => none
  | n + 1, x6, x7, x8, x9, x10, x11, k0 =>
    bif decide (x8 ≥ 0) then
      bif (decide (0 ≤ (wi64 (x8 + x6)))) && (decide ((wi64 (x8 + x6)) < (x10.length : Int))) then
        bif (decide (0 ≤ (wi64 ((wi64 (x8 + x6)) - 1)))) && (decide ((wi64 ((wi64 (x8 + x6)) - 1)) < (x10.length : Int))) then
          bif (decide (0 ≤ (wi64 (x6 - 1)))) && (decide ((wi64 (x6 - 1)) < (x9.length : Int))) then
            bif !((wu64 (x9.getD ((wi64 (x6 - 1)).toNat) 0)) == 0) then
              bif (decide (0 ≤ (wi64 (x6 - 1)))) && (decide ((wi64 (x6 - 1)) < (x9.length : Int))) then
                bif !((wu64 (x9.getD ((wi64 (x6 - 1)).toNat) 0)) == 0) then
                  nat_long.l11 N N x6 x7 x8 (wu64 (Int.tdiv (bit_or .u64 (wu64 ((wu64 (x10.getD ((wi64 (x8 + x6)).toNat) 0)) * 2 ^ 32)) (wu64 (x10.getD ((wi64 ((wi64 (x8 + x6)) - 1)).toNat) 0))) (wu64 (x9.getD ((wi64 (x6 - 1)).toNat) 0)))) (Int.tmod (bit_or .u64 (wu64 ((wu64 (x10.getD ((wi64 (x8 + x6)).toNat) 0)) * 2 ^ 32)) (wu64 (x10.getD ((wi64 ((wi64 (x8 + x6)) - 1)).toNat) 0))) (wu64 (x9.getD ((wi64 (x6 - 1)).toNat) 0))) x9 x10 x11
                    (fun y27 y28 y29 y30 y31 y32 y33 =>
                      bif (((decide (0 ≤ y29)) && (decide (y29 ≤ (wi64 ((wi64 (y29 + y27)) + 1))))) && (decide ((wi64 ((wi64 (y29 + y27)) + 1)) ≤ (wi64 ((wi64 (y29 + y27)) + 1))))) && (decide ((wi64 ((wi64 (y29 + y27)) + 1)) ≤ (y32.length : Int))) then
                        (nat_away.f N y29.toNat (((wi64 ((wi64 (y29 + y27)) + 1)).toNat) - y29.toNat) y31 (wu32 y30) y32).bind fun r34 =>
                        bif !r34.1 then
                          bif (decide (0 ≤ y29)) && (decide (y29 < (y33.length : Int))) then
                            nat_long.l7 N n y27 y28 (wi64 (y29 - 1)) y31 r34.2 (y33.set y29.toNat (wu32 y30)) k0
                          else none
                        else
                        bif (decide (0 ≤ y29)) && (decide (y29 < (y33.length : Int))) then
                          nat_long.l21 N N y27 y28 y29 y29.toNat (((wi64 ((wi64 (y29 + y27)) + 1)).toNat) - y29.toNat) 0 ((((wi64 ((wi64 (y29 + y27)) + 1)).toNat) - y29.toNat : Nat) : Int) 0 y31 r34.2 (y33.set y29.toNat (wu32 ((wu32 y30) - 1)))
                            (fun y52 y53 y54 y55 y56 y57 =>
                              nat_long.l7 N n y52 y53 (wi64 (y54 - 1)) y55 y56 y57 k0)
                        else none
                      else none)
                else none
              else none
            else none
          else none
        else none
      else none
    else
    k0 x7 x10 x11
noncomputable def nat_long.f (N : Nat) (a1 : List Int) (a2 : List Int) : Option (List Int × List Int) :=
  bif (decide (0 ≤ (wi64 ((a2.length : Int) - 1)))) && (decide ((wi64 ((a2.length : Int) - 1)) < (a2.length : Int))) then
    (bits_LeadingZeros32.f N (a2.getD ((wi64 ((a2.length : Int) - 1)).toNat) 0)).bind fun r3 =>
    (nat_up.f N a2 r3 (a2.length : Int)).bind fun r4 =>
    (nat_up.f N a1 r3 (wi64 ((a1.length : Int) + 1))).bind fun r5 =>
    bif decide (wi64 ((r5.length : Int) - (a2.length : Int)) = wi64 ((r5.length : Int) - (a2.length : Int))) && decide (0 ≤ wi64 ((r5.length : Int) - (a2.length : Int))) && decide (wi64 ((r5.length : Int) - (a2.length : Int)) ≤ 9223372036854775807) && roomy ((wi64 ((r5.length : Int) - (a2.length : Int))).toNat) 4 then
      nat_long.l7 N N (a2.length : Int) r3 (wi64 ((wi64 ((r5.length : Int) - (a2.length : Int))) - 1)) r4 r5 (List.replicate ((wi64 ((r5.length : Int) - (a2.length : Int))).toNat) (0 : Int))
        (fun y61 y62 y63 =>
          (nat_cut.f N 0 y63.length y63).bind fun r64 =>
          (nat_down.f N y62 y61).bind fun r65 =>
          some ((r64.2.2.drop r64.1).take r64.2.1, r65))
    else none
  else none
noncomputable def nat_long.body : Code := (Try.f88.body).getD .skip
noncomputable def nat_long.ty : List (Nat × TI) := [(54, ty54), (56, ty56), (92, ty92), (107, ty107)]
noncomputable def nat_long.h7 : Hint := ⟨[(4, .box [.any]), (5, .box [.any]), (6, .any), (7, .any), (8, .row .u32 1), (9, .row .u32 1), (11, .row .u32 1), (12, .any)], [(4, .box [.any]), (5, .box [.any]), (7, .any), (9, .row .u32 1), (11, .row .u32 1)]⟩
noncomputable def nat_long.h11 : Hint := ⟨[(4, .box [.any]), (5, .box [.any]), (6, .any), (7, .any), (8, .row .u32 1), (9, .row .u32 1), (11, .row .u32 1), (12, .any), (14, .any), (15, .any)], [(4, .box [.any]), (5, .box [.any]), (6, .any), (7, .any), (8, .row .u32 1), (9, .row .u32 1), (11, .row .u32 1), (12, .any), (14, .any)]⟩
noncomputable def nat_long.h21 : Hint := ⟨[(4, .box [.any]), (5, .box [.any]), (6, .any), (7, .any), (8, .row .u32 1), (9, .row .u32 1), (11, .row .u32 1), (12, .any), (16, .part .u32 1), (17, .any), (156, .any), (157, .any)], [(4, .box [.any]), (5, .box [.any]), (6, .any), (7, .any), (8, .row .u32 1), (9, .row .u32 1), (11, .row .u32 1), (12, .any)]⟩
noncomputable def nat_long.c11 (N : Nat) : Cut := ⟨fun vs H k => match vs, H with
  | [.ptr 0 0 1, .ptr 1 0 1, .c (.int .i64 x12), .c (.int .i64 x13), .sw 2 1, .sw 3 1, .sw 4 1, .c (.int .i64 x14), .c (.int .u64 x15), .c (.int .u64 x16)], [.vals [.c (.slice none 0 0)], .vals [.c (.slice none 0 0)], .ints .u32 x17, .ints .u32 x18, .ints .u32 x19] => nat_long.l11 N N x12 x13 x14 x15 x16 x17 x18 x19 (fun x20 x21 x22 x23 x24 x25 x26 => k (.exit 2) ⟨mkT nat_long.h11.out [.ptr 0 0 1, .ptr 1 0 1, .c (.int .i64 x20), .c (.int .i64 x21), .sw 2 1, .sw 3 1, .sw 4 1, .c (.int .i64 x22), .c (.int .u64 x23)], [.vals [.c (.slice none 0 0)], .vals [.c (.slice none 0 0)], .ints .u32 x24, .ints .u32 x25, .ints .u32 x26]⟩)
  | _, _ => none⟩
noncomputable def nat_long.c21 (N : Nat) : Cut := ⟨fun vs H k => match vs, H with
  | [.ptr 0 0 1, .ptr 1 0 1, .c (.int .i64 x35), .c (.int .i64 x36), .sw 2 1, .sw 3 1, .sw 4 1, .c (.int .i64 x37), .sl 3 1 x38 x39, .c (.int .u64 x40), .c (.int .i64 x41), .c (.int .i64 x42)], [.vals [.c (.slice none 0 0)], .vals [.c (.slice none 0 0)], .ints .u32 x43, .ints .u32 x44, .ints .u32 x45] => nat_long.l21 N N x35 x36 x37 x38 x39 x40 x41 x42 x43 x44 x45 (fun x46 x47 x48 x49 x50 x51 => k (.exit 4) ⟨mkT nat_long.h21.out [.ptr 0 0 1, .ptr 1 0 1, .c (.int .i64 x46), .c (.int .i64 x47), .sw 2 1, .sw 3 1, .sw 4 1, .c (.int .i64 x48)], [.vals [.c (.slice none 0 0)], .vals [.c (.slice none 0 0)], .ints .u32 x49, .ints .u32 x50, .ints .u32 x51]⟩)
  | _, _ => none⟩
noncomputable def nat_long.c7 (N : Nat) : Cut := ⟨fun vs H k => match vs, H with
  | [.ptr 0 0 1, .ptr 1 0 1, .c (.int .i64 x6), .c (.int .i64 x7), .sw 2 1, .sw 3 1, .sw 4 1, .c (.int .i64 x8)], [.vals [.c (.slice none 0 0)], .vals [.c (.slice none 0 0)], .ints .u32 x9, .ints .u32 x10, .ints .u32 x11] => nat_long.l7 N N x6 x7 x8 x9 x10 x11 (fun x58 x59 x60 => k (.exit 0) ⟨mkT nat_long.h7.out [.ptr 0 0 1, .ptr 1 0 1, .c (.int .i64 x58), .sw 2 1, .sw 3 1], [.vals [.c (.slice none 0 0)], .vals [.c (.slice none 0 0)], .ints .u32 x59, .ints .u32 x60]⟩)
  | _, _ => none⟩
noncomputable def nat_long.E (N : Nat) : Env := { ty := lookN nat_long.ty, tab := lookN [(89, bits_LeadingZeros32.ent N), (90, nat_up.ent N), (91, nat_away.ent N), (74, nat_cut.ent N), (92, nat_down.ent N)], hint := lookN [(7, nat_long.h7), (11, nat_long.h11), (21, nat_long.h21)], cut := lookN [(11, nat_long.c11 N), (21, nat_long.c21 N), (7, nat_long.c7 N)], N := N, res := [.cell 4 56, .cell 5 56], rsh := [.recd [.il .u32 1], .recd [.il .u32 1]], nb := 0, ntmps := 190, own := false }
noncomputable def nat_long.b11 : Code := inner ((subLoops nat_long.body).getD 2 .skip)
set_option maxRecDepth 100000 in
theorem nat_long.l11_eq {R : Type} (N n : Nat) (x12 : Int) (x13 : Int) (x14 : Int) (x15 : Int) (x16 : Int) (x17 : List Int) (x18 : List Int) (x19 : List Int) (k : Ex → St → Option R) :
    evLoop 0 nat_long.h11 (fun s k => evCode (nat_long.E N) 380 nat_long.b11 s k) n [.ptr 0 0 1, .ptr 1 0 1, .c (.int .i64 x12), .c (.int .i64 x13), .sw 2 1, .sw 3 1, .sw 4 1, .c (.int .i64 x14), .c (.int .u64 x15), .c (.int .u64 x16)] [.vals [.c (.slice none 0 0)], .vals [.c (.slice none 0 0)], .ints .u32 x17, .ints .u32 x18, .ints .u32 x19] k = nat_long.l11 N n x12 x13 x14 x15 x16 x17 x18 x19 (fun x20 x21 x22 x23 x24 x25 x26 => k (.exit 2) ⟨mkT nat_long.h11.out [.ptr 0 0 1, .ptr 1 0 1, .c (.int .i64 x20), .c (.int .i64 x21), .sw 2 1, .sw 3 1, .sw 4 1, .c (.int .i64 x22), .c (.int .u64 x23)], [.vals [.c (.slice none 0 0)], .vals [.c (.slice none 0 0)], .ints .u32 x24, .ints .u32 x25, .ints .u32 x26]⟩) := by
  induction n generalizing x12 x13 x14 x15 x16 x17 x18 x19 with
  | zero => kernel_rfl
  | succ n ih =>
    simp only [nat_long.l11, ← ih]
    kernel_rfl
noncomputable def nat_long.b21 : Code := inner ((subLoops nat_long.body).getD 3 .skip)
set_option maxRecDepth 100000 in
theorem nat_long.l21_eq {R : Type} (N n : Nat) (x35 : Int) (x36 : Int) (x37 : Int) (x38 : Nat) (x39 : Nat) (x40 : Int) (x41 : Int) (x42 : Int) (x43 : List Int) (x44 : List Int) (x45 : List Int) (k : Ex → St → Option R) :
    evLoop 0 nat_long.h21 (fun s k => evCode (nat_long.E N) 375 nat_long.b21 s k) n [.ptr 0 0 1, .ptr 1 0 1, .c (.int .i64 x35), .c (.int .i64 x36), .sw 2 1, .sw 3 1, .sw 4 1, .c (.int .i64 x37), .sl 3 1 x38 x39, .c (.int .u64 x40), .c (.int .i64 x41), .c (.int .i64 x42)] [.vals [.c (.slice none 0 0)], .vals [.c (.slice none 0 0)], .ints .u32 x43, .ints .u32 x44, .ints .u32 x45] k = nat_long.l21 N n x35 x36 x37 x38 x39 x40 x41 x42 x43 x44 x45 (fun x46 x47 x48 x49 x50 x51 => k (.exit 4) ⟨mkT nat_long.h21.out [.ptr 0 0 1, .ptr 1 0 1, .c (.int .i64 x46), .c (.int .i64 x47), .sw 2 1, .sw 3 1, .sw 4 1, .c (.int .i64 x48)], [.vals [.c (.slice none 0 0)], .vals [.c (.slice none 0 0)], .ints .u32 x49, .ints .u32 x50, .ints .u32 x51]⟩) := by
  induction n generalizing x35 x36 x37 x38 x39 x40 x41 x42 x43 x44 x45 with
  | zero => kernel_rfl
  | succ n ih =>
    simp only [nat_long.l21, ← ih]
    kernel_rfl
noncomputable def nat_long.b7 : Code := inner ((subLoops nat_long.body).getD 1 .skip)
set_option maxRecDepth 100000 in
theorem nat_long.l7_eq {R : Type} (N n : Nat) (x6 : Int) (x7 : Int) (x8 : Int) (x9 : List Int) (x10 : List Int) (x11 : List Int) (k : Ex → St → Option R) :
    evLoop 0 nat_long.h7 (fun s k => evCode (nat_long.E N) 388 nat_long.b7 s k) n [.ptr 0 0 1, .ptr 1 0 1, .c (.int .i64 x6), .c (.int .i64 x7), .sw 2 1, .sw 3 1, .sw 4 1, .c (.int .i64 x8)] [.vals [.c (.slice none 0 0)], .vals [.c (.slice none 0 0)], .ints .u32 x9, .ints .u32 x10, .ints .u32 x11] k = nat_long.l7 N n x6 x7 x8 x9 x10 x11 (fun x58 x59 x60 => k (.exit 0) ⟨mkT nat_long.h7.out [.ptr 0 0 1, .ptr 1 0 1, .c (.int .i64 x58), .sw 2 1, .sw 3 1], [.vals [.c (.slice none 0 0)], .vals [.c (.slice none 0 0)], .ints .u32 x59, .ints .u32 x60]⟩) := by
  induction n generalizing x6 x7 x8 x9 x10 x11 with
  | zero => kernel_rfl
  | succ n ih =>
    simp only [nat_long.l7, ← ih]
    kernel_rfl
noncomputable def nat_long.dec (v : V) (bs : List Blk) : Option (List Int × List Int) := match v, bs with
  | .tup [.agg [.il .u32 1 z0], .agg [.il .u32 1 z1]], [] => some (z0, z1)
  | _, _ => none
set_option maxRecDepth 100000 in
theorem nat_long.f_eq (N : Nat) (a1 : List Int) (a2 : List Int) :
    evFun (nat_long.E N) nat_long.body [.agg [.il .u32 1 a1], .agg [.il .u32 1 a2]] [] nat_long.dec = nat_long.f N a1 a2 := by kernel_rfl
noncomputable def nat_long.ent (N : Nat) : Entry := { A := List Int × List Int, fresh := 0, imm := [true, true], dec := fun args bs => match freezeL 0 (fun _ => .dead) [.recd [.il .u32 1], .recd [.il .u32 1]] args, bs with
  | some [.agg [.il .u32 1 a1], .agg [.il .u32 1 a2]], [] => some (nat_long.f N a1 a2, fun r => .one (.tup [.agg [.il .u32 1 r.1], .agg [.il .u32 1 r.2]]) [])
  | _, _ => none }
theorem nat_long.env (N : Nat) : EnvOK Try.prog (nat_long.E N) := ⟨(TyOK.cons ty54_ok (TyOK.cons ty56_ok (TyOK.cons ty92_ok (TyOK.cons ty107_ok TyOK.nil)))), (TabOK.cons (bits_LeadingZeros32.ent_ok N) (TabOK.cons (nat_up.ent_ok N) (TabOK.cons (nat_away.ent_ok N) (TabOK.cons (nat_cut.ent_ok N) (TabOK.cons (nat_down.ent_ok N) TabOK.nil)))))⟩
theorem nat_long.res_eq (N : Nat) : (nat_long.E N).res = Try.f88.results.toList := by kernel_rfl
theorem nat_long.k21 (N : Nat) : CutOK Try.prog Try.f88 (nat_long.E N) (.loop nat_long.b21) := by
  intro e hd he hh R vs H k r h
  have e1 : (nat_long.E N).cut (loopKey nat_long.b21) = some (nat_long.c21 N) := by kernel_rfl
  have e2 : (nat_long.E N).hint (loopKey nat_long.b21) = some nat_long.h21 := by kernel_rfl
  rw [e1] at he; rw [e2] at hh; cases he; cases hh
  unfold nat_long.c21 at h; dsimp only at h
  split at h
  · rw [← nat_long.l21_eq] at h
    exact loop_ok (evCode_ok (nat_long.env N) Try_mixed (nat_long.res_eq N) 375 nat_long.b21 (AllCut.of (l := []) (by kernel_rfl) AllCut.nil)) h
  · cases h
theorem nat_long.k11 (N : Nat) : CutOK Try.prog Try.f88 (nat_long.E N) (.loop nat_long.b11) := by
  intro e hd he hh R vs H k r h
  have e1 : (nat_long.E N).cut (loopKey nat_long.b11) = some (nat_long.c11 N) := by kernel_rfl
  have e2 : (nat_long.E N).hint (loopKey nat_long.b11) = some nat_long.h11 := by kernel_rfl
  rw [e1] at he; rw [e2] at hh; cases he; cases hh
  unfold nat_long.c11 at h; dsimp only at h
  split at h
  · rw [← nat_long.l11_eq] at h
    exact loop_ok (evCode_ok (nat_long.env N) Try_mixed (nat_long.res_eq N) 380 nat_long.b11 (AllCut.of (l := []) (by kernel_rfl) AllCut.nil)) h
  · cases h
theorem nat_long.k7 (N : Nat) : CutOK Try.prog Try.f88 (nat_long.E N) (.loop nat_long.b7) := by
  intro e hd he hh R vs H k r h
  have e1 : (nat_long.E N).cut (loopKey nat_long.b7) = some (nat_long.c7 N) := by kernel_rfl
  have e2 : (nat_long.E N).hint (loopKey nat_long.b7) = some nat_long.h7 := by kernel_rfl
  rw [e1] at he; rw [e2] at hh; cases he; cases hh
  unfold nat_long.c7 at h; dsimp only at h
  split at h
  · rw [← nat_long.l7_eq] at h
    exact loop_ok (evCode_ok (nat_long.env N) Try_mixed (nat_long.res_eq N) 388 nat_long.b7 (AllCut.of (l := [(.loop (inner ((subLoops nat_long.body).getD 2 .skip))), (.loop (inner ((subLoops nat_long.body).getD 3 .skip)))]) (by kernel_rfl) (AllCut.cons (nat_long.k11 N) (AllCut.cons (nat_long.k21 N) AllCut.nil)))) h
  · cases h
theorem nat_long.spec (N : Nat) (a1 : List Int) (a2 : List Int) (r : List Int × List Int) (h : nat_long.f N a1 a2 = some r) : FnSpec Try.prog 88 [.agg [.il .u32 1 a1], .agg [.il .u32 1 a2]] [] (.tup [.agg [.il .u32 1 r.1], .agg [.il .u32 1 r.2]]) ([]) := by
  rw [← nat_long.f_eq] at h
  obtain ⟨v, bs', h1, h2⟩ := evFun_ok (nat_long.env N) Try_mixed Try.func88 (by kernel_rfl : Try.f88.body = some nat_long.body) (by kernel_rfl) (nat_long.res_eq N) (by kernel_rfl) (by kernel_rfl) (Nat.le_of_ble_eq_true (by kernel_rfl)) (AllCut.of (l := [(.scope (inner ((subLoops nat_long.body).getD 0 .skip))), (.loop (inner ((subLoops nat_long.body).getD 1 .skip))), (.loop (inner ((subLoops nat_long.body).getD 2 .skip))), (.loop (inner ((subLoops nat_long.body).getD 3 .skip)))]) (by kernel_rfl) (AllCut.cons (cut_scope (by kernel_rfl)) (AllCut.cons (nat_long.k7 N) (AllCut.cons (nat_long.k11 N) (AllCut.cons (nat_long.k21 N) AllCut.nil))))) h
  unfold nat_long.dec at h1; split at h1
  · cases h1; exact h2
  · cases h1
theorem nat_long.ent_ok (N : Nat) : TabOK1 Try.prog 88 (nat_long.ent N) := by
  intro args bs a enc h
  simp only [nat_long.ent] at h
  split at h
  · rename_i hz; have h0 := Option.some.inj h; have h1 := congrArg Prod.fst h0; have h2 := congrArg Prod.snd h0; dsimp only at h1 h2; subst h2; exact FnSpec.of_freeze hz (nat_long.spec N _ _ a h1)
  · cases h
/-! parquet/nat.Div: function 80 -/
noncomputable def nat_Div.f (N : Nat) (a1 : List Int) (a2 : List Int) : Option (List Int × List Int × Int) :=
  bif (a2.length : Int) == 0 then
    some ([], [], 11)
  else
  (nat_Cmp.f N a1 a2).bind fun r3 =>
  bif decide (r3 < 0) then
    some ([], a1, 0)
  else
  bif (a2.length : Int) == 1 then
    bif roomy a1.length 4 then
      bif decide (0 < (a2.length : Int)) then
        (nat_short.f N 0 a1.length (a2.getD 0 0) a1).bind fun r4 =>
        (nat_cut.f N 0 r4.2.length r4.2).bind fun r5 =>
        (nat_Of.f N (wu64 r4.1)).bind fun r6 =>
        some ((r5.2.2.drop r5.1).take r5.2.1, r6, 0)
      else none
    else none
  else
  (nat_long.f N a1 a2).bind fun r7 =>
  some (r7.1, r7.2, 0)
noncomputable def nat_Div.body : Code := (Try.f80.body).getD .skip
noncomputable def nat_Div.ty : List (Nat × TI) := [(54, ty54), (56, ty56), (92, ty92), (107, ty107)]
noncomputable def nat_Div.E (N : Nat) : Env := { ty := lookN nat_Div.ty, tab := lookN [(55, nat_Cmp.ent N), (87, nat_short.ent N), (74, nat_cut.ent N), (58, nat_Of.ent N), (88, nat_long.ent N)], hint := lookN [], cut := lookN [], N := N, res := [.cell 4 56, .cell 5 56, .tmp 6], rsh := [.recd [.il .u32 1], .recd [.il .u32 1], .any], nb := 0, ntmps := 47, own := false }
noncomputable def nat_Div.dec (v : V) (bs : List Blk) : Option (List Int × List Int × Int) := match v, bs with
  | .tup [.agg [.il .u32 1 z0], .agg [.il .u32 1 z1], .c (.int .i64 z2)], [] => some (z0, z1, z2)
  | _, _ => none
set_option maxRecDepth 100000 in
theorem nat_Div.f_eq (N : Nat) (a1 : List Int) (a2 : List Int) :
    evFun (nat_Div.E N) nat_Div.body [.agg [.il .u32 1 a1], .agg [.il .u32 1 a2]] [] nat_Div.dec = nat_Div.f N a1 a2 := by kernel_rfl
noncomputable def nat_Div.ent (N : Nat) : Entry := { A := List Int × List Int × Int, fresh := 0, imm := [true, true], dec := fun args bs => match freezeL 0 (fun _ => .dead) [.recd [.il .u32 1], .recd [.il .u32 1]] args, bs with
  | some [.agg [.il .u32 1 a1], .agg [.il .u32 1 a2]], [] => some (nat_Div.f N a1 a2, fun r => .one (.tup [.agg [.il .u32 1 r.1], .agg [.il .u32 1 r.2.1], .c (.int .i64 r.2.2)]) [])
  | _, _ => none }
theorem nat_Div.env (N : Nat) : EnvOK Try.prog (nat_Div.E N) := ⟨(TyOK.cons ty54_ok (TyOK.cons ty56_ok (TyOK.cons ty92_ok (TyOK.cons ty107_ok TyOK.nil)))), (TabOK.cons (nat_Cmp.ent_ok N) (TabOK.cons (nat_short.ent_ok N) (TabOK.cons (nat_cut.ent_ok N) (TabOK.cons (nat_Of.ent_ok N) (TabOK.cons (nat_long.ent_ok N) TabOK.nil)))))⟩
theorem nat_Div.res_eq (N : Nat) : (nat_Div.E N).res = Try.f80.results.toList := by kernel_rfl
theorem nat_Div.spec (N : Nat) (a1 : List Int) (a2 : List Int) (r : List Int × List Int × Int) (h : nat_Div.f N a1 a2 = some r) : FnSpec Try.prog 80 [.agg [.il .u32 1 a1], .agg [.il .u32 1 a2]] [] (.tup [.agg [.il .u32 1 r.1], .agg [.il .u32 1 r.2.1], .c (.int .i64 r.2.2)]) ([]) := by
  rw [← nat_Div.f_eq] at h
  obtain ⟨v, bs', h1, h2⟩ := evFun_ok (nat_Div.env N) Try_mixed Try.func80 (by kernel_rfl : Try.f80.body = some nat_Div.body) (by kernel_rfl) (nat_Div.res_eq N) (by kernel_rfl) (by kernel_rfl) (Nat.le_of_ble_eq_true (by kernel_rfl)) (AllCut.of (l := []) (by kernel_rfl) AllCut.nil) h
  unfold nat_Div.dec at h1; split at h1
  · cases h1; exact h2
  · cases h1
theorem nat_Div.ent_ok (N : Nat) : TabOK1 Try.prog 80 (nat_Div.ent N) := by
  intro args bs a enc h
  simp only [nat_Div.ent] at h
  split at h
  · rename_i hz; have h0 := Option.some.inj h; have h1 := congrArg Prod.fst h0; have h2 := congrArg Prod.snd h0; dsimp only at h1 h2; subst h2; exact FnSpec.of_freeze hz (nat_Div.spec N _ _ a h1)
  · cases h
/-! parquet/nat.Gcd: function 69 -/
noncomputable def nat_Gcd.l1 {R : Type} (N : Nat) : Nat → List Int → List Int → (List Int → Option R) → Option R
  | 0, _, _, _ => none
  | n + 1, x3, x4, k0 =>
    bif decide ((x4.length : Int) > 0) then
      (nat_Div.f N x3 x4).bind fun r5 =>
      nat_Gcd.l1 N n x4 r5.2.1 k0
    else
    k0 x3
noncomputable def nat_Gcd.f (N : Nat) (a1 : List Int) (a2 : List Int) : Option (List Int) :=
  nat_Gcd.l1 N N a1 a2
    (fun y7 =>
      some y7)
noncomputable def nat_Gcd.body : Code := (Try.f69.body).getD .skip
noncomputable def nat_Gcd.ty : List (Nat × TI) := [(54, ty54), (56, ty56)]
noncomputable def nat_Gcd.h1 : Hint := ⟨[(2, .box [.il .u32 1]), (3, .box [.il .u32 1]), (4, .box [.any])], [(2, .box [.il .u32 1]), (4, .box [.any])]⟩
noncomputable def nat_Gcd.c1 (N : Nat) : Cut := ⟨fun vs H k => match vs, H with
  | [.ptr 0 0 1, .ptr 1 0 1, .ptr 2 0 1], [.vals [.il .u32 1 x3], .vals [.il .u32 1 x4], .vals [.c (.slice none 0 0)]] => nat_Gcd.l1 N N x3 x4 (fun x6 => k (.exit 0) ⟨mkT nat_Gcd.h1.out [.ptr 0 0 1, .ptr 1 0 1], [.vals [.il .u32 1 x6], .vals [.c (.slice none 0 0)]]⟩)
  | _, _ => none⟩
noncomputable def nat_Gcd.E (N : Nat) : Env := { ty := lookN nat_Gcd.ty, tab := lookN [(80, nat_Div.ent N)], hint := lookN [(1, nat_Gcd.h1)], cut := lookN [(1, nat_Gcd.c1 N)], N := N, res := [.cell 4 56], rsh := [.recd [.il .u32 1]], nb := 0, ntmps := 22, own := false }
noncomputable def nat_Gcd.b1 : Code := inner ((subLoops nat_Gcd.body).getD 0 .skip)
set_option maxRecDepth 100000 in
theorem nat_Gcd.l1_eq {R : Type} (N n : Nat) (x3 : List Int) (x4 : List Int) (k : Ex → St → Option R) :
    evLoop 0 nat_Gcd.h1 (fun s k => evCode (nat_Gcd.E N) 396 nat_Gcd.b1 s k) n [.ptr 0 0 1, .ptr 1 0 1, .ptr 2 0 1] [.vals [.il .u32 1 x3], .vals [.il .u32 1 x4], .vals [.c (.slice none 0 0)]] k = nat_Gcd.l1 N n x3 x4 (fun x6 => k (.exit 0) ⟨mkT nat_Gcd.h1.out [.ptr 0 0 1, .ptr 1 0 1], [.vals [.il .u32 1 x6], .vals [.c (.slice none 0 0)]]⟩) := by
  induction n generalizing x3 x4 with
  | zero => kernel_rfl
  | succ n ih =>
    simp only [nat_Gcd.l1, ← ih]
    kernel_rfl
noncomputable def nat_Gcd.dec (v : V) (bs : List Blk) : Option (List Int) := match v, bs with
  | .agg [.il .u32 1 z0], [] => some z0
  | _, _ => none
set_option maxRecDepth 100000 in
theorem nat_Gcd.f_eq (N : Nat) (a1 : List Int) (a2 : List Int) :
    evFun (nat_Gcd.E N) nat_Gcd.body [.agg [.il .u32 1 a1], .agg [.il .u32 1 a2]] [] nat_Gcd.dec = nat_Gcd.f N a1 a2 := by kernel_rfl
noncomputable def nat_Gcd.ent (N : Nat) : Entry := { A := List Int, fresh := 0, imm := [true, true], dec := fun args bs => match freezeL 0 (fun _ => .dead) [.recd [.il .u32 1], .recd [.il .u32 1]] args, bs with
  | some [.agg [.il .u32 1 a1], .agg [.il .u32 1 a2]], [] => some (nat_Gcd.f N a1 a2, fun r => .one (.agg [.il .u32 1 r]) [])
  | _, _ => none }
theorem nat_Gcd.env (N : Nat) : EnvOK Try.prog (nat_Gcd.E N) := ⟨(TyOK.cons ty54_ok (TyOK.cons ty56_ok TyOK.nil)), (TabOK.cons (nat_Div.ent_ok N) TabOK.nil)⟩
theorem nat_Gcd.res_eq (N : Nat) : (nat_Gcd.E N).res = Try.f69.results.toList := by kernel_rfl
theorem nat_Gcd.k1 (N : Nat) : CutOK Try.prog Try.f69 (nat_Gcd.E N) (.loop nat_Gcd.b1) := by
  intro e hd he hh R vs H k r h
  have e1 : (nat_Gcd.E N).cut (loopKey nat_Gcd.b1) = some (nat_Gcd.c1 N) := by kernel_rfl
  have e2 : (nat_Gcd.E N).hint (loopKey nat_Gcd.b1) = some nat_Gcd.h1 := by kernel_rfl
  rw [e1] at he; rw [e2] at hh; cases he; cases hh
  unfold nat_Gcd.c1 at h; dsimp only at h
  split at h
  · rw [← nat_Gcd.l1_eq] at h
    exact loop_ok (evCode_ok (nat_Gcd.env N) Try_mixed (nat_Gcd.res_eq N) 396 nat_Gcd.b1 (AllCut.of (l := []) (by kernel_rfl) AllCut.nil)) h
  · cases h
theorem nat_Gcd.spec (N : Nat) (a1 : List Int) (a2 : List Int) (r : List Int) (h : nat_Gcd.f N a1 a2 = some r) : FnSpec Try.prog 69 [.agg [.il .u32 1 a1], .agg [.il .u32 1 a2]] [] (.agg [.il .u32 1 r]) ([]) := by
  rw [← nat_Gcd.f_eq] at h
  obtain ⟨v, bs', h1, h2⟩ := evFun_ok (nat_Gcd.env N) Try_mixed Try.func69 (by kernel_rfl : Try.f69.body = some nat_Gcd.body) (by kernel_rfl) (nat_Gcd.res_eq N) (by kernel_rfl) (by kernel_rfl) (Nat.le_of_ble_eq_true (by kernel_rfl)) (AllCut.of (l := [(.loop (inner ((subLoops nat_Gcd.body).getD 0 .skip)))]) (by kernel_rfl) (AllCut.cons (nat_Gcd.k1 N) AllCut.nil)) h
  unfold nat_Gcd.dec at h1; split at h1
  · cases h1; exact h2
  · cases h1
theorem nat_Gcd.ent_ok (N : Nat) : TabOK1 Try.prog 69 (nat_Gcd.ent N) := by
  intro args bs a enc h
  simp only [nat_Gcd.ent] at h
  split at h
  · rename_i hz; have h0 := Option.some.inj h; have h1 := congrArg Prod.fst h0; have h2 := congrArg Prod.snd h0; dsimp only at h1 h2; subst h2; exact FnSpec.of_freeze hz (nat_Gcd.spec N _ _ a h1)
  · cases h
/-! (parquet/zint.Int).Sign: function 68 -/
noncomputable def zint_Int_Sign.f (N : Nat) (a1 : Bool) (a2 : List Int) : Option (Int) :=
  (nat_Nat_Bits.f N a2).bind fun r3 =>
  bif r3 == 0 then
    some 0
  else
  bif a1 then
    some (-1)
  else
  some 1
noncomputable def zint_Int_Sign.body : Code := (Try.f68.body).getD .skip
noncomputable def zint_Int_Sign.ty : List (Nat × TI) := [(4, ty4), (56, ty56), (58, ty58)]
noncomputable def zint_Int_Sign.E (N : Nat) : Env := { ty := lookN zint_Int_Sign.ty, tab := lookN [(73, nat_Nat_Bits.ent N)], hint := lookN [], cut := lookN [], N := N, res := [.tmp 2], rsh := [.any], nb := 0, ntmps := 11, own := false }
noncomputable def zint_Int_Sign.dec (v : V) (bs : List Blk) : Option (Int) := match v, bs with
  | .c (.int .i64 z0), [] => some z0
  | _, _ => none
set_option maxRecDepth 100000 in
theorem zint_Int_Sign.f_eq (N : Nat) (a1 : Bool) (a2 : List Int) :
    evFun (zint_Int_Sign.E N) zint_Int_Sign.body [.agg [.c (.bool a1), .il .u32 1 a2]] [] zint_Int_Sign.dec = zint_Int_Sign.f N a1 a2 := by kernel_rfl
noncomputable def zint_Int_Sign.ent (N : Nat) : Entry := { A := Int, fresh := 0, imm := [true], dec := fun args bs => match freezeL 0 (fun _ => .dead) [.recd [.any, .il .u32 1]] args, bs with
  | some [.agg [.c (.bool a1), .il .u32 1 a2]], [] => some (zint_Int_Sign.f N a1 a2, fun r => .one (.c (.int .i64 r)) [])
  | _, _ => none }
theorem zint_Int_Sign.env (N : Nat) : EnvOK Try.prog (zint_Int_Sign.E N) := ⟨(TyOK.cons ty4_ok (TyOK.cons ty56_ok (TyOK.cons ty58_ok TyOK.nil))), (TabOK.cons (nat_Nat_Bits.ent_ok N) TabOK.nil)⟩
theorem zint_Int_Sign.res_eq (N : Nat) : (zint_Int_Sign.E N).res = Try.f68.results.toList := by kernel_rfl
theorem zint_Int_Sign.spec (N : Nat) (a1 : Bool) (a2 : List Int) (r : Int) (h : zint_Int_Sign.f N a1 a2 = some r) : FnSpec Try.prog 68 [.agg [.c (.bool a1), .il .u32 1 a2]] [] (.c (.int .i64 r)) ([]) := by
  rw [← zint_Int_Sign.f_eq] at h
  obtain ⟨v, bs', h1, h2⟩ := evFun_ok (zint_Int_Sign.env N) Try_mixed Try.func68 (by kernel_rfl : Try.f68.body = some zint_Int_Sign.body) (by kernel_rfl) (zint_Int_Sign.res_eq N) (by kernel_rfl) (by kernel_rfl) (Nat.le_of_ble_eq_true (by kernel_rfl)) (AllCut.of (l := []) (by kernel_rfl) AllCut.nil) h
  unfold zint_Int_Sign.dec at h1; split at h1
  · cases h1; exact h2
  · cases h1
theorem zint_Int_Sign.ent_ok (N : Nat) : TabOK1 Try.prog 68 (zint_Int_Sign.ent N) := by
  intro args bs a enc h
  simp only [zint_Int_Sign.ent] at h
  split at h
  · rename_i hz; have h0 := Option.some.inj h; have h1 := congrArg Prod.fst h0; have h2 := congrArg Prod.snd h0; dsimp only at h1 h2; subst h2; exact FnSpec.of_freeze hz (zint_Int_Sign.spec N _ _ a h1)
  · cases h
/-! parquet/zint.Neg: function 84 -/
noncomputable def zint_Neg.f (N : Nat) (a1 : Bool) (a2 : List Int) : Option (Bool × List Int) :=
  (zint_Make.f N (!a1) a2).bind fun r3 =>
  some (r3.1, r3.2)
noncomputable def zint_Neg.body : Code := (Try.f84.body).getD .skip
noncomputable def zint_Neg.ty : List (Nat × TI) := [(4, ty4), (56, ty56), (58, ty58)]
noncomputable def zint_Neg.E (N : Nat) : Env := { ty := lookN zint_Neg.ty, tab := lookN [(52, zint_Make.ent N)], hint := lookN [], cut := lookN [], N := N, res := [.cell 2 58], rsh := [.recd [.any, .il .u32 1]], nb := 0, ntmps := 9, own := false }
noncomputable def zint_Neg.dec (v : V) (bs : List Blk) : Option (Bool × List Int) := match v, bs with
  | .agg [.c (.bool z0), .il .u32 1 z1], [] => some (z0, z1)
  | _, _ => none
set_option maxRecDepth 100000 in
theorem zint_Neg.f_eq (N : Nat) (a1 : Bool) (a2 : List Int) :
    evFun (zint_Neg.E N) zint_Neg.body [.agg [.c (.bool a1), .il .u32 1 a2]] [] zint_Neg.dec = zint_Neg.f N a1 a2 := by kernel_rfl
noncomputable def zint_Neg.ent (N : Nat) : Entry := { A := Bool × List Int, fresh := 0, imm := [true], dec := fun args bs => match freezeL 0 (fun _ => .dead) [.recd [.any, .il .u32 1]] args, bs with
  | some [.agg [.c (.bool a1), .il .u32 1 a2]], [] => some (zint_Neg.f N a1 a2, fun r => .one (.agg [.c (.bool r.1), .il .u32 1 r.2]) [])
  | _, _ => none }
theorem zint_Neg.env (N : Nat) : EnvOK Try.prog (zint_Neg.E N) := ⟨(TyOK.cons ty4_ok (TyOK.cons ty56_ok (TyOK.cons ty58_ok TyOK.nil))), (TabOK.cons (zint_Make.ent_ok N) TabOK.nil)⟩
theorem zint_Neg.res_eq (N : Nat) : (zint_Neg.E N).res = Try.f84.results.toList := by kernel_rfl
theorem zint_Neg.spec (N : Nat) (a1 : Bool) (a2 : List Int) (r : Bool × List Int) (h : zint_Neg.f N a1 a2 = some r) : FnSpec Try.prog 84 [.agg [.c (.bool a1), .il .u32 1 a2]] [] (.agg [.c (.bool r.1), .il .u32 1 r.2]) ([]) := by
  rw [← zint_Neg.f_eq] at h
  obtain ⟨v, bs', h1, h2⟩ := evFun_ok (zint_Neg.env N) Try_mixed Try.func84 (by kernel_rfl : Try.f84.body = some zint_Neg.body) (by kernel_rfl) (zint_Neg.res_eq N) (by kernel_rfl) (by kernel_rfl) (Nat.le_of_ble_eq_true (by kernel_rfl)) (AllCut.of (l := []) (by kernel_rfl) AllCut.nil) h
  unfold zint_Neg.dec at h1; split at h1
  · cases h1; exact h2
  · cases h1
theorem zint_Neg.ent_ok (N : Nat) : TabOK1 Try.prog 84 (zint_Neg.ent N) := by
  intro args bs a enc h
  simp only [zint_Neg.ent] at h
  split at h
  · rename_i hz; have h0 := Option.some.inj h; have h1 := congrArg Prod.fst h0; have h2 := congrArg Prod.snd h0; dsimp only at h1 h2; subst h2; exact FnSpec.of_freeze hz (zint_Neg.spec N _ _ a h1)
  · cases h
/-! parquet/zint.Sub: function 82 -/
noncomputable def zint_Sub.f (N : Nat) (a1 : Bool) (a2 : List Int) (a3 : Bool) (a4 : List Int) : Option (Bool × List Int × Int) :=
  (zint_Neg.f N a3 a4).bind fun r5 =>
  (zint_Add.f N a1 a2 r5.1 r5.2).bind fun r6 =>
  some (r6.1, r6.2.1, r6.2.2)
noncomputable def zint_Sub.body : Code := (Try.f82.body).getD .skip
noncomputable def zint_Sub.ty : List (Nat × TI) := [(58, ty58)]
noncomputable def zint_Sub.E (N : Nat) : Env := { ty := lookN zint_Sub.ty, tab := lookN [(84, zint_Neg.ent N), (42, zint_Add.ent N)], hint := lookN [], cut := lookN [], N := N, res := [.cell 4 58, .tmp 5], rsh := [.recd [.any, .il .u32 1], .any], nb := 0, ntmps := 12, own := false }
noncomputable def zint_Sub.dec (v : V) (bs : List Blk) : Option (Bool × List Int × Int) := match v, bs with
  | .tup [.agg [.c (.bool z0), .il .u32 1 z1], .c (.int .i64 z2)], [] => some (z0, z1, z2)
  | _, _ => none
set_option maxRecDepth 100000 in
theorem zint_Sub.f_eq (N : Nat) (a1 : Bool) (a2 : List Int) (a3 : Bool) (a4 : List Int) :
    evFun (zint_Sub.E N) zint_Sub.body [.agg [.c (.bool a1), .il .u32 1 a2], .agg [.c (.bool a3), .il .u32 1 a4]] [] zint_Sub.dec = zint_Sub.f N a1 a2 a3 a4 := by kernel_rfl
noncomputable def zint_Sub.ent (N : Nat) : Entry := { A := Bool × List Int × Int, fresh := 0, imm := [true, true], dec := fun args bs => match freezeL 0 (fun _ => .dead) [.recd [.any, .il .u32 1], .recd [.any, .il .u32 1]] args, bs with
  | some [.agg [.c (.bool a1), .il .u32 1 a2], .agg [.c (.bool a3), .il .u32 1 a4]], [] => some (zint_Sub.f N a1 a2 a3 a4, fun r => .one (.tup [.agg [.c (.bool r.1), .il .u32 1 r.2.1], .c (.int .i64 r.2.2)]) [])
  | _, _ => none }
theorem zint_Sub.env (N : Nat) : EnvOK Try.prog (zint_Sub.E N) := ⟨(TyOK.cons ty58_ok TyOK.nil), (TabOK.cons (zint_Neg.ent_ok N) (TabOK.cons (zint_Add.ent_ok N) TabOK.nil))⟩
theorem zint_Sub.res_eq (N : Nat) : (zint_Sub.E N).res = Try.f82.results.toList := by kernel_rfl
theorem zint_Sub.spec (N : Nat) (a1 : Bool) (a2 : List Int) (a3 : Bool) (a4 : List Int) (r : Bool × List Int × Int) (h : zint_Sub.f N a1 a2 a3 a4 = some r) : FnSpec Try.prog 82 [.agg [.c (.bool a1), .il .u32 1 a2], .agg [.c (.bool a3), .il .u32 1 a4]] [] (.tup [.agg [.c (.bool r.1), .il .u32 1 r.2.1], .c (.int .i64 r.2.2)]) ([]) := by
  rw [← zint_Sub.f_eq] at h
  obtain ⟨v, bs', h1, h2⟩ := evFun_ok (zint_Sub.env N) Try_mixed Try.func82 (by kernel_rfl : Try.f82.body = some zint_Sub.body) (by kernel_rfl) (zint_Sub.res_eq N) (by kernel_rfl) (by kernel_rfl) (Nat.le_of_ble_eq_true (by kernel_rfl)) (AllCut.of (l := []) (by kernel_rfl) AllCut.nil) h
  unfold zint_Sub.dec at h1; split at h1
  · cases h1; exact h2
  · cases h1
theorem zint_Sub.ent_ok (N : Nat) : TabOK1 Try.prog 82 (zint_Sub.ent N) := by
  intro args bs a enc h
  simp only [zint_Sub.ent] at h
  split at h
  · rename_i hz; have h0 := Option.some.inj h; have h1 := congrArg Prod.fst h0; have h2 := congrArg Prod.snd h0; dsimp only at h1 h2; subst h2; exact FnSpec.of_freeze hz (zint_Sub.spec N _ _ _ _ a h1)
  · cases h
/-! parquet/zint.Quo: function 83 -/
noncomputable def zint_Quo.f (N : Nat) (a1 : Bool) (a2 : List Int) (a3 : Bool) (a4 : List Int) : Option (Bool × List Int × Bool × List Int × Int) :=
  (nat_Div.f N a2 a4).bind fun r5 =>
  bif r5.2.2 != 0 then
    some (false, [], false, [], r5.2.2)
  else
  bif a1 then
    (nat_Nat_Bits.f N r5.2.1).bind fun r6 =>
    bif decide (r6 > 0) then
      (nat_Of.f N 1).bind fun r7 =>
      (nat_Add.f N r5.1 r7).bind fun r8 =>
      (nat_Sub.f N a4 r5.2.1).bind fun r9 =>
      (zint_Make.f N (!(a1 == a3)) r8.1).bind fun r10 =>
      (zint_Make.f N false r9.1).bind fun r11 =>
      some (r10.1, r10.2, r11.1, r11.2, 0)
    else
    (zint_Make.f N (!(a1 == a3)) r5.1).bind fun r12 =>
    (zint_Make.f N false r5.2.1).bind fun r13 =>
    some (r12.1, r12.2, r13.1, r13.2, 0)
  else
  (zint_Make.f N (!(a1 == a3)) r5.1).bind fun r14 =>
  (zint_Make.f N false r5.2.1).bind fun r15 =>
  some (r14.1, r14.2, r15.1, r15.2, 0)
noncomputable def zint_Quo.body : Code := (Try.f83.body).getD .skip
noncomputable def zint_Quo.ty : List (Nat × TI) := [(4, ty4), (56, ty56), (58, ty58)]
noncomputable def zint_Quo.E (N : Nat) : Env := { ty := lookN zint_Quo.ty, tab := lookN [(80, nat_Div.ent N), (73, nat_Nat_Bits.ent N), (58, nat_Of.ent N), (54, nat_Add.ent N), (56, nat_Sub.ent N), (52, zint_Make.ent N)], hint := lookN [], cut := lookN [], N := N, res := [.cell 4 58, .cell 5 58, .tmp 6], rsh := [.recd [.any, .il .u32 1], .recd [.any, .il .u32 1], .any], nb := 0, ntmps := 52, own := false }
noncomputable def zint_Quo.dec (v : V) (bs : List Blk) : Option (Bool × List Int × Bool × List Int × Int) := match v, bs with
  | .tup [.agg [.c (.bool z0), .il .u32 1 z1], .agg [.c (.bool z2), .il .u32 1 z3], .c (.int .i64 z4)], [] => some (z0, z1, z2, z3, z4)
  | _, _ => none
set_option maxRecDepth 100000 in
theorem zint_Quo.f_eq (N : Nat) (a1 : Bool) (a2 : List Int) (a3 : Bool) (a4 : List Int) :
    evFun (zint_Quo.E N) zint_Quo.body [.agg [.c (.bool a1), .il .u32 1 a2], .agg [.c (.bool a3), .il .u32 1 a4]] [] zint_Quo.dec = zint_Quo.f N a1 a2 a3 a4 := by kernel_rfl
noncomputable def zint_Quo.ent (N : Nat) : Entry := { A := Bool × List Int × Bool × List Int × Int, fresh := 0, imm := [true, true], dec := fun args bs => match freezeL 0 (fun _ => .dead) [.recd [.any, .il .u32 1], .recd [.any, .il .u32 1]] args, bs with
  | some [.agg [.c (.bool a1), .il .u32 1 a2], .agg [.c (.bool a3), .il .u32 1 a4]], [] => some (zint_Quo.f N a1 a2 a3 a4, fun r => .one (.tup [.agg [.c (.bool r.1), .il .u32 1 r.2.1], .agg [.c (.bool r.2.2.1), .il .u32 1 r.2.2.2.1], .c (.int .i64 r.2.2.2.2)]) [])
  | _, _ => none }
theorem zint_Quo.env (N : Nat) : EnvOK Try.prog (zint_Quo.E N) := ⟨(TyOK.cons ty4_ok (TyOK.cons ty56_ok (TyOK.cons ty58_ok TyOK.nil))), (TabOK.cons (nat_Div.ent_ok N) (TabOK.cons (nat_Nat_Bits.ent_ok N) (TabOK.cons (nat_Of.ent_ok N) (TabOK.cons (nat_Add.ent_ok N) (TabOK.cons (nat_Sub.ent_ok N) (TabOK.cons (zint_Make.ent_ok N) TabOK.nil))))))⟩
theorem zint_Quo.res_eq (N : Nat) : (zint_Quo.E N).res = Try.f83.results.toList := by kernel_rfl
theorem zint_Quo.spec (N : Nat) (a1 : Bool) (a2 : List Int) (a3 : Bool) (a4 : List Int) (r : Bool × List Int × Bool × List Int × Int) (h : zint_Quo.f N a1 a2 a3 a4 = some r) : FnSpec Try.prog 83 [.agg [.c (.bool a1), .il .u32 1 a2], .agg [.c (.bool a3), .il .u32 1 a4]] [] (.tup [.agg [.c (.bool r.1), .il .u32 1 r.2.1], .agg [.c (.bool r.2.2.1), .il .u32 1 r.2.2.2.1], .c (.int .i64 r.2.2.2.2)]) ([]) := by
  rw [← zint_Quo.f_eq] at h
  obtain ⟨v, bs', h1, h2⟩ := evFun_ok (zint_Quo.env N) Try_mixed Try.func83 (by kernel_rfl : Try.f83.body = some zint_Quo.body) (by kernel_rfl) (zint_Quo.res_eq N) (by kernel_rfl) (by kernel_rfl) (Nat.le_of_ble_eq_true (by kernel_rfl)) (AllCut.of (l := []) (by kernel_rfl) AllCut.nil) h
  unfold zint_Quo.dec at h1; split at h1
  · cases h1; exact h2
  · cases h1
theorem zint_Quo.ent_ok (N : Nat) : TabOK1 Try.prog 83 (zint_Quo.ent N) := by
  intro args bs a enc h
  simp only [zint_Quo.ent] at h
  split at h
  · rename_i hz; have h0 := Option.some.inj h; have h1 := congrArg Prod.fst h0; have h2 := congrArg Prod.snd h0; dsimp only at h1 h2; subst h2; exact FnSpec.of_freeze hz (zint_Quo.spec N _ _ _ _ a h1)
  · cases h
/-! parquet/zint.Exact: function 72 -/
noncomputable def zint_Exact.f (N : Nat) (a1 : Bool) (a2 : List Int) (a3 : Bool) (a4 : List Int) : Option (Bool × List Int × Int) :=
  (zint_Quo.f N a1 a2 a3 a4).bind fun r5 =>
  bif r5.2.2.2.2 != 0 then
    some (false, [], r5.2.2.2.2)
  else
  (zint_Int_Sign.f N r5.2.2.1 r5.2.2.2.1).bind fun r6 =>
  bif r6 != 0 then
    some (false, [], 2)
  else
  some (r5.1, r5.2.1, 0)
noncomputable def zint_Exact.body : Code := (Try.f72.body).getD .skip
noncomputable def zint_Exact.ty : List (Nat × TI) := [(4, ty4), (56, ty56), (58, ty58)]
noncomputable def zint_Exact.E (N : Nat) : Env := { ty := lookN zint_Exact.ty, tab := lookN [(83, zint_Quo.ent N), (68, zint_Int_Sign.ent N)], hint := lookN [], cut := lookN [], N := N, res := [.cell 4 58, .tmp 5], rsh := [.recd [.any, .il .u32 1], .any], nb := 0, ntmps := 27, own := false }
noncomputable def zint_Exact.dec (v : V) (bs : List Blk) : Option (Bool × List Int × Int) := match v, bs with
  | .tup [.agg [.c (.bool z0), .il .u32 1 z1], .c (.int .i64 z2)], [] => some (z0, z1, z2)
  | _, _ => none
set_option maxRecDepth 100000 in
theorem zint_Exact.f_eq (N : Nat) (a1 : Bool) (a2 : List Int) (a3 : Bool) (a4 : List Int) :
    evFun (zint_Exact.E N) zint_Exact.body [.agg [.c (.bool a1), .il .u32 1 a2], .agg [.c (.bool a3), .il .u32 1 a4]] [] zint_Exact.dec = zint_Exact.f N a1 a2 a3 a4 := by kernel_rfl
noncomputable def zint_Exact.ent (N : Nat) : Entry := { A := Bool × List Int × Int, fresh := 0, imm := [true, true], dec := fun args bs => match freezeL 0 (fun _ => .dead) [.recd [.any, .il .u32 1], .recd [.any, .il .u32 1]] args, bs with
  | some [.agg [.c (.bool a1), .il .u32 1 a2], .agg [.c (.bool a3), .il .u32 1 a4]], [] => some (zint_Exact.f N a1 a2 a3 a4, fun r => .one (.tup [.agg [.c (.bool r.1), .il .u32 1 r.2.1], .c (.int .i64 r.2.2)]) [])
  | _, _ => none }
theorem zint_Exact.env (N : Nat) : EnvOK Try.prog (zint_Exact.E N) := ⟨(TyOK.cons ty4_ok (TyOK.cons ty56_ok (TyOK.cons ty58_ok TyOK.nil))), (TabOK.cons (zint_Quo.ent_ok N) (TabOK.cons (zint_Int_Sign.ent_ok N) TabOK.nil))⟩
theorem zint_Exact.res_eq (N : Nat) : (zint_Exact.E N).res = Try.f72.results.toList := by kernel_rfl
theorem zint_Exact.spec (N : Nat) (a1 : Bool) (a2 : List Int) (a3 : Bool) (a4 : List Int) (r : Bool × List Int × Int) (h : zint_Exact.f N a1 a2 a3 a4 = some r) : FnSpec Try.prog 72 [.agg [.c (.bool a1), .il .u32 1 a2], .agg [.c (.bool a3), .il .u32 1 a4]] [] (.tup [.agg [.c (.bool r.1), .il .u32 1 r.2.1], .c (.int .i64 r.2.2)]) ([]) := by
  rw [← zint_Exact.f_eq] at h
  obtain ⟨v, bs', h1, h2⟩ := evFun_ok (zint_Exact.env N) Try_mixed Try.func72 (by kernel_rfl : Try.f72.body = some zint_Exact.body) (by kernel_rfl) (zint_Exact.res_eq N) (by kernel_rfl) (by kernel_rfl) (Nat.le_of_ble_eq_true (by kernel_rfl)) (AllCut.of (l := []) (by kernel_rfl) AllCut.nil) h
  unfold zint_Exact.dec at h1; split at h1
  · cases h1; exact h2
  · cases h1
theorem zint_Exact.ent_ok (N : Nat) : TabOK1 Try.prog 72 (zint_Exact.ent N) := by
  intro args bs a enc h
  simp only [zint_Exact.ent] at h
  split at h
  · rename_i hz; have h0 := Option.some.inj h; have h1 := congrArg Prod.fst h0; have h2 := congrArg Prod.snd h0; dsimp only at h1 h2; subst h2; exact FnSpec.of_freeze hz (zint_Exact.spec N _ _ _ _ a h1)
  · cases h
/-! parquet/zint.must: function 71 -/
noncomputable def zint_must.f (N : Nat) (a1 : Bool) (a2 : List Int) (a3 : Int) : Option (Bool × List Int) :=
  some (a1, a2)
noncomputable def zint_must.body : Code := (Try.f71.body).getD .skip
noncomputable def zint_must.ty : List (Nat × TI) := [(58, ty58)]
noncomputable def zint_must.E (N : Nat) : Env := { ty := lookN zint_must.ty, tab := lookN [], hint := lookN [], cut := lookN [], N := N, res := [.cell 4 58], rsh := [.recd [.any, .il .u32 1]], nb := 0, ntmps := 6, own := false }
noncomputable def zint_must.dec (v : V) (bs : List Blk) : Option (Bool × List Int) := match v, bs with
  | .agg [.c (.bool z0), .il .u32 1 z1], [] => some (z0, z1)
  | _, _ => none
set_option maxRecDepth 100000 in
theorem zint_must.f_eq (N : Nat) (a1 : Bool) (a2 : List Int) (a3 : Int) :
    evFun (zint_must.E N) zint_must.body [.agg [.c (.bool a1), .il .u32 1 a2], .c (.int .i64 a3)] [] zint_must.dec = zint_must.f N a1 a2 a3 := by kernel_rfl
noncomputable def zint_must.ent (N : Nat) : Entry := { A := Bool × List Int, fresh := 0, imm := [true, true], dec := fun args bs => match freezeL 0 (fun _ => .dead) [.recd [.any, .il .u32 1], .any] args, bs with
  | some [.agg [.c (.bool a1), .il .u32 1 a2], .c (.int .i64 a3)], [] => some (zint_must.f N a1 a2 a3, fun r => .one (.agg [.c (.bool r.1), .il .u32 1 r.2]) [])
  | _, _ => none }
theorem zint_must.env (N : Nat) : EnvOK Try.prog (zint_must.E N) := ⟨(TyOK.cons ty58_ok TyOK.nil), TabOK.nil⟩
theorem zint_must.res_eq (N : Nat) : (zint_must.E N).res = Try.f71.results.toList := by kernel_rfl
theorem zint_must.spec (N : Nat) (a1 : Bool) (a2 : List Int) (a3 : Int) (r : Bool × List Int) (h : zint_must.f N a1 a2 a3 = some r) : FnSpec Try.prog 71 [.agg [.c (.bool a1), .il .u32 1 a2], .c (.int .i64 a3)] [] (.agg [.c (.bool r.1), .il .u32 1 r.2]) ([]) := by
  rw [← zint_must.f_eq] at h
  obtain ⟨v, bs', h1, h2⟩ := evFun_ok (zint_must.env N) Try_mixed Try.func71 (by kernel_rfl : Try.f71.body = some zint_must.body) (by kernel_rfl) (zint_must.res_eq N) (by kernel_rfl) (by kernel_rfl) (Nat.le_of_ble_eq_true (by kernel_rfl)) (AllCut.of (l := []) (by kernel_rfl) AllCut.nil) h
  unfold zint_must.dec at h1; split at h1
  · cases h1; exact h2
  · cases h1
theorem zint_must.ent_ok (N : Nat) : TabOK1 Try.prog 71 (zint_must.ent N) := by
  intro args bs a enc h
  simp only [zint_must.ent] at h
  split at h
  · rename_i hz; have h0 := Option.some.inj h; have h1 := congrArg Prod.fst h0; have h2 := congrArg Prod.snd h0; dsimp only at h1 h2; subst h2; exact FnSpec.of_freeze hz (zint_must.spec N _ _ _ a h1)
  · cases h
/-! parquet/zint.cofactors$1: function 81 -/
noncomputable def zint_cofactors_1.f (N : Nat) (a1 : Bool) (a2 : List Int) (a3 : Bool) (a4 : List Int) (a5 : Bool) (a6 : List Int) : Option (Bool × List Int) :=
  (zint_Mul.f N a3 a4 a5 a6).bind fun r7 =>
  (zint_must.f N r7.1 r7.2.1 r7.2.2).bind fun r8 =>
  (zint_Sub.f N a1 a2 r8.1 r8.2).bind fun r9 =>
  (zint_must.f N r9.1 r9.2.1 r9.2.2).bind fun r10 =>
  some (r10.1, r10.2)
noncomputable def zint_cofactors_1.body : Code := (Try.f81.body).getD .skip
noncomputable def zint_cofactors_1.ty : List (Nat × TI) := [(58, ty58)]
noncomputable def zint_cofactors_1.E (N : Nat) : Env := { ty := lookN zint_cofactors_1.ty, tab := lookN [(45, zint_Mul.ent N), (71, zint_must.ent N), (82, zint_Sub.ent N)], hint := lookN [], cut := lookN [], N := N, res := [.cell 6 58], rsh := [.recd [.any, .il .u32 1]], nb := 0, ntmps := 18, own := false }
noncomputable def zint_cofactors_1.dec (v : V) (bs : List Blk) : Option (Bool × List Int) := match v, bs with
  | .agg [.c (.bool z0), .il .u32 1 z1], [] => some (z0, z1)
  | _, _ => none
set_option maxRecDepth 100000 in
theorem zint_cofactors_1.f_eq (N : Nat) (a1 : Bool) (a2 : List Int) (a3 : Bool) (a4 : List Int) (a5 : Bool) (a6 : List Int) :
    evFun (zint_cofactors_1.E N) zint_cofactors_1.body [.agg [.c (.bool a1), .il .u32 1 a2], .agg [.c (.bool a3), .il .u32 1 a4], .agg [.c (.bool a5), .il .u32 1 a6]] [] zint_cofactors_1.dec = zint_cofactors_1.f N a1 a2 a3 a4 a5 a6 := by kernel_rfl
noncomputable def zint_cofactors_1.ent (N : Nat) : Entry := { A := Bool × List Int, fresh := 0, imm := [true, true, true], dec := fun args bs => match freezeL 0 (fun _ => .dead) [.recd [.any, .il .u32 1], .recd [.any, .il .u32 1], .recd [.any, .il .u32 1]] args, bs with
  | some [.agg [.c (.bool a1), .il .u32 1 a2], .agg [.c (.bool a3), .il .u32 1 a4], .agg [.c (.bool a5), .il .u32 1 a6]], [] => some (zint_cofactors_1.f N a1 a2 a3 a4 a5 a6, fun r => .one (.agg [.c (.bool r.1), .il .u32 1 r.2]) [])
  | _, _ => none }
theorem zint_cofactors_1.env (N : Nat) : EnvOK Try.prog (zint_cofactors_1.E N) := ⟨(TyOK.cons ty58_ok TyOK.nil), (TabOK.cons (zint_Mul.ent_ok N) (TabOK.cons (zint_must.ent_ok N) (TabOK.cons (zint_Sub.ent_ok N) TabOK.nil)))⟩
theorem zint_cofactors_1.res_eq (N : Nat) : (zint_cofactors_1.E N).res = Try.f81.results.toList := by kernel_rfl
theorem zint_cofactors_1.spec (N : Nat) (a1 : Bool) (a2 : List Int) (a3 : Bool) (a4 : List Int) (a5 : Bool) (a6 : List Int) (r : Bool × List Int) (h : zint_cofactors_1.f N a1 a2 a3 a4 a5 a6 = some r) : FnSpec Try.prog 81 [.agg [.c (.bool a1), .il .u32 1 a2], .agg [.c (.bool a3), .il .u32 1 a4], .agg [.c (.bool a5), .il .u32 1 a6]] [] (.agg [.c (.bool r.1), .il .u32 1 r.2]) ([]) := by
  rw [← zint_cofactors_1.f_eq] at h
  obtain ⟨v, bs', h1, h2⟩ := evFun_ok (zint_cofactors_1.env N) Try_mixed Try.func81 (by kernel_rfl : Try.f81.body = some zint_cofactors_1.body) (by kernel_rfl) (zint_cofactors_1.res_eq N) (by kernel_rfl) (by kernel_rfl) (Nat.le_of_ble_eq_true (by kernel_rfl)) (AllCut.of (l := []) (by kernel_rfl) AllCut.nil) h
  unfold zint_cofactors_1.dec at h1; split at h1
  · cases h1; exact h2
  · cases h1
theorem zint_cofactors_1.ent_ok (N : Nat) : TabOK1 Try.prog 81 (zint_cofactors_1.ent N) := by
  intro args bs a enc h
  simp only [zint_cofactors_1.ent] at h
  split at h
  · rename_i hz; have h0 := Option.some.inj h; have h1 := congrArg Prod.fst h0; have h2 := congrArg Prod.snd h0; dsimp only at h1 h2; subst h2; exact FnSpec.of_freeze hz (zint_cofactors_1.spec N _ _ _ _ _ _ a h1)
  · cases h
/-! parquet/zint.cofactors: function 70 -/
noncomputable def zint_cofactors.l5 {R : Type} (N : Nat) : Nat → Bool → List Int → Bool → List Int → Bool → Bool → Bool → List Int → Bool → List Int → Bool → List Int → Bool → List Int → Bool → List Int → Bool → List Int → (Bool → List Int → Bool → List Int → Bool → Bool → Bool → List Int → Bool → List Int → Option R) → Option R
  | 0, _, _, _, _, _, _, _, _, _, _, _, _, _, _, _, _, _, _, _ => none
  | n + 1, x9, x10, x11, x12, x13, x14, x15, x16, x17, x18, x19, x20, x21, x22, x23, x24, x25, x26, k0 =>
    (zint_Int_Sign.f N x15 x16).bind fun r27 =>
    bif r27 == 0 then
      k0 x9 x10 x11 x12 x13 x14 x19 x20 x23 x24
    else
    (zint_Quo.f N x17 x18 x15 x16).bind fun r38 =>
    (zint_cofactors_1.f N x19 x20 r38.1 r38.2.1 x21 x22).bind fun r39 =>
    (zint_cofactors_1.f N x23 x24 r38.1 r38.2.1 x25 x26).bind fun r40 =>
    zint_cofactors.l5 N n x9 x10 x11 x12 x13 x14 r38.2.2.1 r38.2.2.2.1 x15 x16 x21 x22 r39.1 r39.2 x25 x26 r40.1 r40.2 k0
noncomputable def zint_cofactors.f (N : Nat) (a1 : Bool) (a2 : List Int) (a3 : Bool) (a4 : List Int) : Option (Bool × List Int × Bool × List Int) :=
  (zint_Quo.f N a1 a2 a3 a4).bind fun r5 =>
  (zint_Of.f N 1).bind fun r6 =>
  (zint_Of.f N 1).bind fun r7 =>
  (zint_Neg.f N r5.1 r5.2.1).bind fun r8 =>
  zint_cofactors.l5 N N a1 a2 a3 a4 false false r5.2.2.1 r5.2.2.2.1 a3 a4 false [] r6.1 r6.2 r7.1 r7.2 r8.1 r8.2
    (fun y41 y42 y43 y44 y45 y46 y47 y48 y49 y50 =>
      (zint_Int_Sign.f N y47 y48).bind fun r51 =>
      bif decide (r51 < 0) then
        (zint_Add.f N y47 y48 y43 y44).bind fun r52 =>
        (zint_must.f N r52.1 r52.2.1 r52.2.2).bind fun r53 =>
        (zint_Sub.f N y49 y50 y41 y42).bind fun r54 =>
        (zint_must.f N r54.1 r54.2.1 r54.2.2).bind fun r55 =>
        some (r53.1, r53.2, r55.1, r55.2)
      else
      some (y47, y48, y49, y50))
noncomputable def zint_cofactors.body : Code := (Try.f70.body).getD .skip
noncomputable def zint_cofactors.ty : List (Nat × TI) := [(4, ty4), (56, ty56), (58, ty58)]
noncomputable def zint_cofactors.h5 : Hint := ⟨[(2, .box [.any, .il .u32 1]), (3, .box [.any, .il .u32 1]), (4, .box [.any, .any]), (5, .box [.any, .any]), (6, .any), (8, .box [.any, .il .u32 1]), (10, .box [.any, .il .u32 1]), (11, .box [.any, .il .u32 1]), (12, .box [.any, .il .u32 1]), (13, .box [.any, .il .u32 1]), (14, .box [.any, .il .u32 1])], [(2, .box [.any, .il .u32 1]), (3, .box [.any, .il .u32 1]), (4, .box [.any, .any]), (5, .box [.any, .any]), (11, .box [.any, .il .u32 1]), (13, .box [.any, .il .u32 1])]⟩
noncomputable def zint_cofactors.c5 (N : Nat) : Cut := ⟨fun vs H k => match vs, H with
  | [.ptr 0 0 2, .ptr 1 0 2, .ptr 2 0 2, .ptr 3 0 2, .fn 81 [] [], .ptr 4 0 2, .ptr 5 0 2, .ptr 6 0 2, .ptr 7 0 2, .ptr 8 0 2, .ptr 9 0 2], [.vals [.c (.bool x9), .il .u32 1 x10], .vals [.c (.bool x11), .il .u32 1 x12], .vals [.c (.bool x13), .c (.slice none 0 0)], .vals [.c (.bool x14), .c (.slice none 0 0)], .vals [.c (.bool x15), .il .u32 1 x16], .vals [.c (.bool x17), .il .u32 1 x18], .vals [.c (.bool x19), .il .u32 1 x20], .vals [.c (.bool x21), .il .u32 1 x22], .vals [.c (.bool x23), .il .u32 1 x24], .vals [.c (.bool x25), .il .u32 1 x26]] => zint_cofactors.l5 N N x9 x10 x11 x12 x13 x14 x15 x16 x17 x18 x19 x20 x21 x22 x23 x24 x25 x26 (fun x28 x29 x30 x31 x32 x33 x34 x35 x36 x37 => k (.exit 0) ⟨mkT zint_cofactors.h5.out [.ptr 0 0 2, .ptr 1 0 2, .ptr 2 0 2, .ptr 3 0 2, .ptr 4 0 2, .ptr 5 0 2], [.vals [.c (.bool x28), .il .u32 1 x29], .vals [.c (.bool x30), .il .u32 1 x31], .vals [.c (.bool x32), .c (.slice none 0 0)], .vals [.c (.bool x33), .c (.slice none 0 0)], .vals [.c (.bool x34), .il .u32 1 x35], .vals [.c (.bool x36), .il .u32 1 x37]]⟩)
  | _, _ => none⟩
noncomputable def zint_cofactors.E (N : Nat) : Env := { ty := lookN zint_cofactors.ty, tab := lookN [(83, zint_Quo.ent N), (44, zint_Of.ent N), (84, zint_Neg.ent N), (68, zint_Int_Sign.ent N), (81, zint_cofactors_1.ent N), (42, zint_Add.ent N), (71, zint_must.ent N), (82, zint_Sub.ent N)], hint := lookN [(5, zint_cofactors.h5)], cut := lookN [(5, zint_cofactors.c5 N)], N := N, res := [.cell 4 58, .cell 5 58], rsh := [.recd [.any, .il .u32 1], .recd [.any, .il .u32 1]], nb := 0, ntmps := 72, own := false }
noncomputable def zint_cofactors.b5 : Code := inner ((subLoops zint_cofactors.body).getD 1 .skip)
set_option maxRecDepth 100000 in
theorem zint_cofactors.l5_eq {R : Type} (N n : Nat) (x9 : Bool) (x10 : List Int) (x11 : Bool) (x12 : List Int) (x13 : Bool) (x14 : Bool) (x15 : Bool) (x16 : List Int) (x17 : Bool) (x18 : List Int) (x19 : Bool) (x20 : List Int) (x21 : Bool) (x22 : List Int) (x23 : Bool) (x24 : List Int) (x25 : Bool) (x26 : List Int) (k : Ex → St → Option R) :
    evLoop 0 zint_cofactors.h5 (fun s k => evCode (zint_cofactors.E N) 390 zint_cofactors.b5 s k) n [.ptr 0 0 2, .ptr 1 0 2, .ptr 2 0 2, .ptr 3 0 2, .fn 81 [] [], .ptr 4 0 2, .ptr 5 0 2, .ptr 6 0 2, .ptr 7 0 2, .ptr 8 0 2, .ptr 9 0 2] [.vals [.c (.bool x9), .il .u32 1 x10], .vals [.c (.bool x11), .il .u32 1 x12], .vals [.c (.bool x13), .c (.slice none 0 0)], .vals [.c (.bool x14), .c (.slice none 0 0)], .vals [.c (.bool x15), .il .u32 1 x16], .vals [.c (.bool x17), .il .u32 1 x18], .vals [.c (.bool x19), .il .u32 1 x20], .vals [.c (.bool x21), .il .u32 1 x22], .vals [.c (.bool x23), .il .u32 1 x24], .vals [.c (.bool x25), .il .u32 1 x26]] k = zint_cofactors.l5 N n x9 x10 x11 x12 x13 x14 x15 x16 x17 x18 x19 x20 x21 x22 x23 x24 x25 x26 (fun x28 x29 x30 x31 x32 x33 x34 x35 x36 x37 => k (.exit 0) ⟨mkT zint_cofactors.h5.out [.ptr 0 0 2, .ptr 1 0 2, .ptr 2 0 2, .ptr 3 0 2, .ptr 4 0 2, .ptr 5 0 2], [.vals [.c (.bool x28), .il .u32 1 x29], .vals [.c (.bool x30), .il .u32 1 x31], .vals [.c (.bool x32), .c (.slice none 0 0)], .vals [.c (.bool x33), .c (.slice none 0 0)], .vals [.c (.bool x34), .il .u32 1 x35], .vals [.c (.bool x36), .il .u32 1 x37]]⟩) := by
  induction n generalizing x9 x10 x11 x12 x13 x14 x15 x16 x17 x18 x19 x20 x21 x22 x23 x24 x25 x26 with
  | zero => kernel_rfl
  | succ n ih =>
    simp only [zint_cofactors.l5, ← ih]
    kernel_rfl
noncomputable def zint_cofactors.dec (v : V) (bs : List Blk) : Option (Bool × List Int × Bool × List Int) := match v, bs with
  | .tup [.agg [.c (.bool z0), .il .u32 1 z1], .agg [.c (.bool z2), .il .u32 1 z3]], [] => some (z0, z1, z2, z3)
  | _, _ => none
set_option maxRecDepth 100000 in
theorem zint_cofactors.f_eq (N : Nat) (a1 : Bool) (a2 : List Int) (a3 : Bool) (a4 : List Int) :
    evFun (zint_cofactors.E N) zint_cofactors.body [.agg [.c (.bool a1), .il .u32 1 a2], .agg [.c (.bool a3), .il .u32 1 a4]] [] zint_cofactors.dec = zint_cofactors.f N a1 a2 a3 a4 := by kernel_rfl
noncomputable def zint_cofactors.ent (N : Nat) : Entry := { A := Bool × List Int × Bool × List Int, fresh := 0, imm := [true, true], dec := fun args bs => match freezeL 0 (fun _ => .dead) [.recd [.any, .il .u32 1], .recd [.any, .il .u32 1]] args, bs with
  | some [.agg [.c (.bool a1), .il .u32 1 a2], .agg [.c (.bool a3), .il .u32 1 a4]], [] => some (zint_cofactors.f N a1 a2 a3 a4, fun r => .one (.tup [.agg [.c (.bool r.1), .il .u32 1 r.2.1], .agg [.c (.bool r.2.2.1), .il .u32 1 r.2.2.2]]) [])
  | _, _ => none }
theorem zint_cofactors.env (N : Nat) : EnvOK Try.prog (zint_cofactors.E N) := ⟨(TyOK.cons ty4_ok (TyOK.cons ty56_ok (TyOK.cons ty58_ok TyOK.nil))), (TabOK.cons (zint_Quo.ent_ok N) (TabOK.cons (zint_Of.ent_ok N) (TabOK.cons (zint_Neg.ent_ok N) (TabOK.cons (zint_Int_Sign.ent_ok N) (TabOK.cons (zint_cofactors_1.ent_ok N) (TabOK.cons (zint_Add.ent_ok N) (TabOK.cons (zint_must.ent_ok N) (TabOK.cons (zint_Sub.ent_ok N) TabOK.nil))))))))⟩
theorem zint_cofactors.res_eq (N : Nat) : (zint_cofactors.E N).res = Try.f70.results.toList := by kernel_rfl
theorem zint_cofactors.k5 (N : Nat) : CutOK Try.prog Try.f70 (zint_cofactors.E N) (.loop zint_cofactors.b5) := by
  intro e hd he hh R vs H k r h
  have e1 : (zint_cofactors.E N).cut (loopKey zint_cofactors.b5) = some (zint_cofactors.c5 N) := by kernel_rfl
  have e2 : (zint_cofactors.E N).hint (loopKey zint_cofactors.b5) = some zint_cofactors.h5 := by kernel_rfl
  rw [e1] at he; rw [e2] at hh; cases he; cases hh
  unfold zint_cofactors.c5 at h; dsimp only at h
  split at h
  · rw [← zint_cofactors.l5_eq] at h
    exact loop_ok (evCode_ok (zint_cofactors.env N) Try_mixed (zint_cofactors.res_eq N) 390 zint_cofactors.b5 (AllCut.of (l := []) (by kernel_rfl) AllCut.nil)) h
  · cases h
theorem zint_cofactors.spec (N : Nat) (a1 : Bool) (a2 : List Int) (a3 : Bool) (a4 : List Int) (r : Bool × List Int × Bool × List Int) (h : zint_cofactors.f N a1 a2 a3 a4 = some r) : FnSpec Try.prog 70 [.agg [.c (.bool a1), .il .u32 1 a2], .agg [.c (.bool a3), .il .u32 1 a4]] [] (.tup [.agg [.c (.bool r.1), .il .u32 1 r.2.1], .agg [.c (.bool r.2.2.1), .il .u32 1 r.2.2.2]]) ([]) := by
  rw [← zint_cofactors.f_eq] at h
  obtain ⟨v, bs', h1, h2⟩ := evFun_ok (zint_cofactors.env N) Try_mixed Try.func70 (by kernel_rfl : Try.f70.body = some zint_cofactors.body) (by kernel_rfl) (zint_cofactors.res_eq N) (by kernel_rfl) (by kernel_rfl) (Nat.le_of_ble_eq_true (by kernel_rfl)) (AllCut.of (l := [(.scope (inner ((subLoops zint_cofactors.body).getD 0 .skip))), (.loop (inner ((subLoops zint_cofactors.body).getD 1 .skip)))]) (by kernel_rfl) (AllCut.cons (cut_scope (by kernel_rfl)) (AllCut.cons (zint_cofactors.k5 N) AllCut.nil))) h
  unfold zint_cofactors.dec at h1; split at h1
  · cases h1; exact h2
  · cases h1
theorem zint_cofactors.ent_ok (N : Nat) : TabOK1 Try.prog 70 (zint_cofactors.ent N) := by
  intro args bs a enc h
  simp only [zint_cofactors.ent] at h
  split at h
  · rename_i hz; have h0 := Option.some.inj h; have h1 := congrArg Prod.fst h0; have h2 := congrArg Prod.snd h0; dsimp only at h1 h2; subst h2; exact FnSpec.of_freeze hz (zint_cofactors.spec N _ _ _ _ a h1)
  · cases h
/-! parquet/zint.Gcd: function 51 -/
noncomputable def zint_Gcd.f (N : Nat) (a1 : Bool) (a2 : List Int) (a3 : Bool) (a4 : List Int) : Option (List Int × Bool × List Int × Bool × List Int) :=
  (zint_Int_Sign.f N a3 a4).bind fun r5 =>
  bif r5 == 0 then
    (zint_Int_Sign.f N a1 a2).bind fun r6 =>
    (zint_Of.f N r6).bind fun r7 =>
    some (a2, r7.1, r7.2, false, [])
  else
  (nat_Gcd.f N a2 a4).bind fun r8 =>
  (zint_Make.f N false r8).bind fun r9 =>
  (zint_Exact.f N a1 a2 r9.1 r9.2).bind fun r10 =>
  (zint_must.f N r10.1 r10.2.1 r10.2.2).bind fun r11 =>
  (zint_Make.f N false a4).bind fun r12 =>
  (zint_Exact.f N r12.1 r12.2 r9.1 r9.2).bind fun r13 =>
  (zint_must.f N r13.1 r13.2.1 r13.2.2).bind fun r14 =>
  (zint_cofactors.f N r11.1 r11.2 r14.1 r14.2).bind fun r15 =>
  (zint_Make.f N (!(r15.2.2.1 == a3)) r15.2.2.2).bind fun r16 =>
  some (r8, r15.1, r15.2.1, r16.1, r16.2)
noncomputable def zint_Gcd.body : Code := (Try.f51.body).getD .skip
noncomputable def zint_Gcd.ty : List (Nat × TI) := [(4, ty4), (56, ty56), (58, ty58)]
noncomputable def zint_Gcd.E (N : Nat) : Env := { ty := lookN zint_Gcd.ty, tab := lookN [(68, zint_Int_Sign.ent N), (44, zint_Of.ent N), (69, nat_Gcd.ent N), (52, zint_Make.ent N), (72, zint_Exact.ent N), (71, zint_must.ent N), (70, zint_cofactors.ent N)], hint := lookN [], cut := lookN [], N := N, res := [.cell 4 56, .cell 5 58, .cell 6 58], rsh := [.recd [.il .u32 1], .recd [.any, .il .u32 1], .recd [.any, .il .u32 1]], nb := 0, ntmps := 52, own := false }
noncomputable def zint_Gcd.dec (v : V) (bs : List Blk) : Option (List Int × Bool × List Int × Bool × List Int) := match v, bs with
  | .tup [.agg [.il .u32 1 z0], .agg [.c (.bool z1), .il .u32 1 z2], .agg [.c (.bool z3), .il .u32 1 z4]], [] => some (z0, z1, z2, z3, z4)
  | _, _ => none
set_option maxRecDepth 100000 in
theorem zint_Gcd.f_eq (N : Nat) (a1 : Bool) (a2 : List Int) (a3 : Bool) (a4 : List Int) :
    evFun (zint_Gcd.E N) zint_Gcd.body [.agg [.c (.bool a1), .il .u32 1 a2], .agg [.c (.bool a3), .il .u32 1 a4]] [] zint_Gcd.dec = zint_Gcd.f N a1 a2 a3 a4 := by kernel_rfl
noncomputable def zint_Gcd.ent (N : Nat) : Entry := { A := List Int × Bool × List Int × Bool × List Int, fresh := 0, imm := [true, true], dec := fun args bs => match freezeL 0 (fun _ => .dead) [.recd [.any, .il .u32 1], .recd [.any, .il .u32 1]] args, bs with
  | some [.agg [.c (.bool a1), .il .u32 1 a2], .agg [.c (.bool a3), .il .u32 1 a4]], [] => some (zint_Gcd.f N a1 a2 a3 a4, fun r => .one (.tup [.agg [.il .u32 1 r.1], .agg [.c (.bool r.2.1), .il .u32 1 r.2.2.1], .agg [.c (.bool r.2.2.2.1), .il .u32 1 r.2.2.2.2]]) [])
  | _, _ => none }
theorem zint_Gcd.env (N : Nat) : EnvOK Try.prog (zint_Gcd.E N) := ⟨(TyOK.cons ty4_ok (TyOK.cons ty56_ok (TyOK.cons ty58_ok TyOK.nil))), (TabOK.cons (zint_Int_Sign.ent_ok N) (TabOK.cons (zint_Of.ent_ok N) (TabOK.cons (nat_Gcd.ent_ok N) (TabOK.cons (zint_Make.ent_ok N) (TabOK.cons (zint_Exact.ent_ok N) (TabOK.cons (zint_must.ent_ok N) (TabOK.cons (zint_cofactors.ent_ok N) TabOK.nil)))))))⟩
theorem zint_Gcd.res_eq (N : Nat) : (zint_Gcd.E N).res = Try.f51.results.toList := by kernel_rfl
theorem zint_Gcd.spec (N : Nat) (a1 : Bool) (a2 : List Int) (a3 : Bool) (a4 : List Int) (r : List Int × Bool × List Int × Bool × List Int) (h : zint_Gcd.f N a1 a2 a3 a4 = some r) : FnSpec Try.prog 51 [.agg [.c (.bool a1), .il .u32 1 a2], .agg [.c (.bool a3), .il .u32 1 a4]] [] (.tup [.agg [.il .u32 1 r.1], .agg [.c (.bool r.2.1), .il .u32 1 r.2.2.1], .agg [.c (.bool r.2.2.2.1), .il .u32 1 r.2.2.2.2]]) ([]) := by
  rw [← zint_Gcd.f_eq] at h
  obtain ⟨v, bs', h1, h2⟩ := evFun_ok (zint_Gcd.env N) Try_mixed Try.func51 (by kernel_rfl : Try.f51.body = some zint_Gcd.body) (by kernel_rfl) (zint_Gcd.res_eq N) (by kernel_rfl) (by kernel_rfl) (Nat.le_of_ble_eq_true (by kernel_rfl)) (AllCut.of (l := []) (by kernel_rfl) AllCut.nil) h
  unfold zint_Gcd.dec at h1; split at h1
  · cases h1; exact h2
  · cases h1
theorem zint_Gcd.ent_ok (N : Nat) : TabOK1 Try.prog 51 (zint_Gcd.ent N) := by
  intro args bs a enc h
  simp only [zint_Gcd.ent] at h
  split at h
  · rename_i hz; have h0 := Option.some.inj h; have h1 := congrArg Prod.fst h0; have h2 := congrArg Prod.snd h0; dsimp only at h1 h2; subst h2; exact FnSpec.of_freeze hz (zint_Gcd.spec N _ _ _ _ a h1)
  · cases h
/-! parquet/modular.Gcd: function 38 -/
noncomputable def modular_Gcd.f (N : Nat) (a1 : Int) (a2 : Int) : Option (Int × Int × Int) :=
  bif decide ((mx2 a1 a2) > 4611686018427387904) then
    some (0, 0, 0)
  else
  bif decide ((mn2 a1 a2) < (-4611686018427387904)) then
    some (0, 0, 0)
  else
  (zint_Of.f N a1).bind fun r3 =>
  (zint_Of.f N a2).bind fun r4 =>
  (zint_Gcd.f N r3.1 r3.2 r4.1 r4.2).bind fun r5 =>
  (zint_Make.f N false r5.1).bind fun r6 =>
  (zint_Int_Int64.f N r6.1 r6.2).bind fun r7 =>
  (zint_Int_Int64.f N r5.2.1 r5.2.2.1).bind fun r8 =>
  (zint_Int_Int64.f N r5.2.2.2.1 r5.2.2.2.2).bind fun r9 =>
  some (r7.1, r8.1, r9.1)
noncomputable def modular_Gcd.body : Code := (Try.f38.body).getD .skip
noncomputable def modular_Gcd.ty : List (Nat × TI) := [(56, ty56), (58, ty58)]
noncomputable def modular_Gcd.E (N : Nat) : Env := { ty := lookN modular_Gcd.ty, tab := lookN [(44, zint_Of.ent N), (51, zint_Gcd.ent N), (52, zint_Make.ent N), (43, zint_Int_Int64.ent N)], hint := lookN [], cut := lookN [], N := N, res := [.tmp 4, .tmp 5, .tmp 6], rsh := [.any, .any, .any], nb := 0, ntmps := 48, own := false }
noncomputable def modular_Gcd.dec (v : V) (bs : List Blk) : Option (Int × Int × Int) := match v, bs with
  | .tup [.c (.int .i64 z0), .c (.int .i64 z1), .c (.int .i64 z2)], [] => some (z0, z1, z2)
  | _, _ => none
set_option maxRecDepth 100000 in
theorem modular_Gcd.f_eq (N : Nat) (a1 : Int) (a2 : Int) :
    evFun (modular_Gcd.E N) modular_Gcd.body [.c (.int .i64 a1), .c (.int .i64 a2)] [] modular_Gcd.dec = modular_Gcd.f N a1 a2 := by kernel_rfl
noncomputable def modular_Gcd.ent (N : Nat) : Entry := { A := Int × Int × Int, fresh := 0, imm := [true, true], dec := fun args bs => match freezeL 0 (fun _ => .dead) [.any, .any] args, bs with
  | some [.c (.int .i64 a1), .c (.int .i64 a2)], [] => some (modular_Gcd.f N a1 a2, fun r => .one (.tup [.c (.int .i64 r.1), .c (.int .i64 r.2.1), .c (.int .i64 r.2.2)]) [])
  | _, _ => none }
theorem modular_Gcd.env (N : Nat) : EnvOK Try.prog (modular_Gcd.E N) := ⟨(TyOK.cons ty56_ok (TyOK.cons ty58_ok TyOK.nil)), (TabOK.cons (zint_Of.ent_ok N) (TabOK.cons (zint_Gcd.ent_ok N) (TabOK.cons (zint_Make.ent_ok N) (TabOK.cons (zint_Int_Int64.ent_ok N) TabOK.nil))))⟩
theorem modular_Gcd.res_eq (N : Nat) : (modular_Gcd.E N).res = Try.f38.results.toList := by kernel_rfl
theorem modular_Gcd.spec (N : Nat) (a1 : Int) (a2 : Int) (r : Int × Int × Int) (h : modular_Gcd.f N a1 a2 = some r) : FnSpec Try.prog 38 [.c (.int .i64 a1), .c (.int .i64 a2)] [] (.tup [.c (.int .i64 r.1), .c (.int .i64 r.2.1), .c (.int .i64 r.2.2)]) ([]) := by
  rw [← modular_Gcd.f_eq] at h
  obtain ⟨v, bs', h1, h2⟩ := evFun_ok (modular_Gcd.env N) Try_mixed Try.func38 (by kernel_rfl : Try.f38.body = some modular_Gcd.body) (by kernel_rfl) (modular_Gcd.res_eq N) (by kernel_rfl) (by kernel_rfl) (Nat.le_of_ble_eq_true (by kernel_rfl)) (AllCut.of (l := []) (by kernel_rfl) AllCut.nil) h
  unfold modular_Gcd.dec at h1; split at h1
  · cases h1; exact h2
  · cases h1
theorem modular_Gcd.ent_ok (N : Nat) : TabOK1 Try.prog 38 (modular_Gcd.ent N) := by
  intro args bs a enc h
  simp only [modular_Gcd.ent] at h
  split at h
  · rename_i hz; have h0 := Option.some.inj h; have h1 := congrArg Prod.fst h0; have h2 := congrArg Prod.snd h0; dsimp only at h1 h2; subst h2; exact FnSpec.of_freeze hz (modular_Gcd.spec N _ _ a h1)
  · cases h
/-! parquet/binary.Content: function 25 -/
noncomputable def binary_Content.f (N : Nat) (a1 : Int) (a2 : Int) (a3 : Int) : Option (Int) :=
  (binary_within.f N a1 a2 a3).bind fun r4 =>
  bif !r4 then
    some 0
  else
  (modular_Gcd.f N a1 a2).bind fun r5 =>
  (modular_Gcd.f N r5.1 a3).bind fun r6 =>
  some r6.1
noncomputable def binary_Content.body : Code := (Try.f25.body).getD .skip
noncomputable def binary_Content.ty : List (Nat × TI) := [(2, ty2), (23, ty23)]
noncomputable def binary_Content.E (N : Nat) : Env := { ty := lookN binary_Content.ty, tab := lookN [(31, binary_within.ent N), (38, modular_Gcd.ent N)], hint := lookN [], cut := lookN [], N := N, res := [.tmp 2], rsh := [.any], nb := 0, ntmps := 27, own := false }
noncomputable def binary_Content.dec (v : V) (bs : List Blk) : Option (Int) := match v, bs with
  | .c (.int .i64 z0), [] => some z0
  | _, _ => none
set_option maxRecDepth 100000 in
theorem binary_Content.f_eq (N : Nat) (a1 : Int) (a2 : Int) (a3 : Int) :
    evFun (binary_Content.E N) binary_Content.body [.agg [.c (.int .i64 a1), .c (.int .i64 a2), .c (.int .i64 a3)]] [] binary_Content.dec = binary_Content.f N a1 a2 a3 := by kernel_rfl
noncomputable def binary_Content.ent (N : Nat) : Entry := { A := Int, fresh := 0, imm := [true], dec := fun args bs => match freezeL 0 (fun _ => .dead) [.recd [.any, .any, .any]] args, bs with
  | some [.agg [.c (.int .i64 a1), .c (.int .i64 a2), .c (.int .i64 a3)]], [] => some (binary_Content.f N a1 a2 a3, fun r => .one (.c (.int .i64 r)) [])
  | _, _ => none }
theorem binary_Content.env (N : Nat) : EnvOK Try.prog (binary_Content.E N) := ⟨(TyOK.cons ty2_ok (TyOK.cons ty23_ok TyOK.nil)), (TabOK.cons (binary_within.ent_ok N) (TabOK.cons (modular_Gcd.ent_ok N) TabOK.nil))⟩
theorem binary_Content.res_eq (N : Nat) : (binary_Content.E N).res = Try.f25.results.toList := by kernel_rfl
theorem binary_Content.spec (N : Nat) (a1 : Int) (a2 : Int) (a3 : Int) (r : Int) (h : binary_Content.f N a1 a2 a3 = some r) : FnSpec Try.prog 25 [.agg [.c (.int .i64 a1), .c (.int .i64 a2), .c (.int .i64 a3)]] [] (.c (.int .i64 r)) ([]) := by
  rw [← binary_Content.f_eq] at h
  obtain ⟨v, bs', h1, h2⟩ := evFun_ok (binary_Content.env N) Try_mixed Try.func25 (by kernel_rfl : Try.f25.body = some binary_Content.body) (by kernel_rfl) (binary_Content.res_eq N) (by kernel_rfl) (by kernel_rfl) (Nat.le_of_ble_eq_true (by kernel_rfl)) (AllCut.of (l := []) (by kernel_rfl) AllCut.nil) h
  unfold binary_Content.dec at h1; split at h1
  · cases h1; exact h2
  · cases h1
theorem binary_Content.ent_ok (N : Nat) : TabOK1 Try.prog 25 (binary_Content.ent N) := by
  intro args bs a enc h
  simp only [binary_Content.ent] at h
  split at h
  · rename_i hz; have h0 := Option.some.inj h; have h1 := congrArg Prod.fst h0; have h2 := congrArg Prod.snd h0; dsimp only at h1 h2; subst h2; exact FnSpec.of_freeze hz (binary_Content.spec N _ _ _ a h1)
  · cases h
/-! parquet/parquetref04.Common: function 39 -/
noncomputable def parquetref04_Common.l3 {R : Type} (N : Nat) : Nat → Int → Int → (Int → Option R) → Option R
  | 0, _, _, _ => none
  | n + 1, x3, x4, k0 =>
    bif decide (x4 > 0) then
      bif !(x4 == 0) then
        parquetref04_Common.l3 N n x4 (Int.tmod x3 x4) k0
      else none
    else
    k0 x3
noncomputable def parquetref04_Common.f (N : Nat) (a1 : Int) (a2 : Int) : Option (Int) :=
  parquetref04_Common.l3 N N (mx2 a1 (wi64 (0 - a1))) (mx2 a2 (wi64 (0 - a2)))
    (fun y6 =>
      some y6)
noncomputable def parquetref04_Common.body : Code := (Try.f39.body).getD .skip
noncomputable def parquetref04_Common.ty : List (Nat × TI) := []
noncomputable def parquetref04_Common.h3 : Hint := ⟨[(0, .any), (1, .any)], [(0, .any)]⟩
noncomputable def parquetref04_Common.c3 (N : Nat) : Cut := ⟨fun vs H k => match vs, H with
  | [.c (.int .i64 x3), .c (.int .i64 x4)], [] => parquetref04_Common.l3 N N x3 x4 (fun x5 => k (.exit 0) ⟨mkT parquetref04_Common.h3.out [.c (.int .i64 x5)], []⟩)
  | _, _ => none⟩
noncomputable def parquetref04_Common.E (N : Nat) : Env := { ty := lookN parquetref04_Common.ty, tab := lookN [], hint := lookN [(3, parquetref04_Common.h3)], cut := lookN [(3, parquetref04_Common.c3 N)], N := N, res := [.tmp 4], rsh := [.any], nb := 0, ntmps := 22, own := false }
noncomputable def parquetref04_Common.b3 : Code := inner ((subLoops parquetref04_Common.body).getD 0 .skip)
set_option maxRecDepth 100000 in
theorem parquetref04_Common.l3_eq {R : Type} (N n : Nat) (x3 : Int) (x4 : Int) (k : Ex → St → Option R) :
    evLoop 0 parquetref04_Common.h3 (fun s k => evCode (parquetref04_Common.E N) 394 parquetref04_Common.b3 s k) n [.c (.int .i64 x3), .c (.int .i64 x4)] [] k = parquetref04_Common.l3 N n x3 x4 (fun x5 => k (.exit 0) ⟨mkT parquetref04_Common.h3.out [.c (.int .i64 x5)], []⟩) := by
  induction n generalizing x3 x4 with
  | zero => kernel_rfl
  | succ n ih =>
    simp only [parquetref04_Common.l3, ← ih]
    kernel_rfl
noncomputable def parquetref04_Common.dec (v : V) (bs : List Blk) : Option (Int) := match v, bs with
  | .c (.int .i64 z0), [] => some z0
  | _, _ => none
set_option maxRecDepth 100000 in
theorem parquetref04_Common.f_eq (N : Nat) (a1 : Int) (a2 : Int) :
    evFun (parquetref04_Common.E N) parquetref04_Common.body [.c (.int .i64 a1), .c (.int .i64 a2)] [] parquetref04_Common.dec = parquetref04_Common.f N a1 a2 := by kernel_rfl
noncomputable def parquetref04_Common.ent (N : Nat) : Entry := { A := Int, fresh := 0, imm := [true, true], dec := fun args bs => match freezeL 0 (fun _ => .dead) [.any, .any] args, bs with
  | some [.c (.int .i64 a1), .c (.int .i64 a2)], [] => some (parquetref04_Common.f N a1 a2, fun r => .one (.c (.int .i64 r)) [])
  | _, _ => none }
theorem parquetref04_Common.env (N : Nat) : EnvOK Try.prog (parquetref04_Common.E N) := ⟨TyOK.nil, TabOK.nil⟩
theorem parquetref04_Common.res_eq (N : Nat) : (parquetref04_Common.E N).res = Try.f39.results.toList := by kernel_rfl
theorem parquetref04_Common.k3 (N : Nat) : CutOK Try.prog Try.f39 (parquetref04_Common.E N) (.loop parquetref04_Common.b3) := by
  intro e hd he hh R vs H k r h
  have e1 : (parquetref04_Common.E N).cut (loopKey parquetref04_Common.b3) = some (parquetref04_Common.c3 N) := by kernel_rfl
  have e2 : (parquetref04_Common.E N).hint (loopKey parquetref04_Common.b3) = some parquetref04_Common.h3 := by kernel_rfl
  rw [e1] at he; rw [e2] at hh; cases he; cases hh
  unfold parquetref04_Common.c3 at h; dsimp only at h
  split at h
  · rw [← parquetref04_Common.l3_eq] at h
    exact loop_ok (evCode_ok (parquetref04_Common.env N) Try_mixed (parquetref04_Common.res_eq N) 394 parquetref04_Common.b3 (AllCut.of (l := []) (by kernel_rfl) AllCut.nil)) h
  · cases h
theorem parquetref04_Common.spec (N : Nat) (a1 : Int) (a2 : Int) (r : Int) (h : parquetref04_Common.f N a1 a2 = some r) : FnSpec Try.prog 39 [.c (.int .i64 a1), .c (.int .i64 a2)] [] (.c (.int .i64 r)) ([]) := by
  rw [← parquetref04_Common.f_eq] at h
  obtain ⟨v, bs', h1, h2⟩ := evFun_ok (parquetref04_Common.env N) Try_mixed Try.func39 (by kernel_rfl : Try.f39.body = some parquetref04_Common.body) (by kernel_rfl) (parquetref04_Common.res_eq N) (by kernel_rfl) (by kernel_rfl) (Nat.le_of_ble_eq_true (by kernel_rfl)) (AllCut.of (l := [(.loop (inner ((subLoops parquetref04_Common.body).getD 0 .skip)))]) (by kernel_rfl) (AllCut.cons (parquetref04_Common.k3 N) AllCut.nil)) h
  unfold parquetref04_Common.dec at h1; split at h1
  · cases h1; exact h2
  · cases h1
theorem parquetref04_Common.ent_ok (N : Nat) : TabOK1 Try.prog 39 (parquetref04_Common.ent N) := by
  intro args bs a enc h
  simp only [parquetref04_Common.ent] at h
  split at h
  · rename_i hz; have h0 := Option.some.inj h; have h1 := congrArg Prod.fst h0; have h2 := congrArg Prod.snd h0; dsimp only at h1 h2; subst h2; exact FnSpec.of_freeze hz (parquetref04_Common.spec N _ _ a h1)
  · cases h
/-! parquet/parquetref08.Content: function 26 -/
noncomputable def parquetref08_Content.f (N : Nat) (a1 : Int) (a2 : Int) (a3 : Int) : Option (Int) :=
  (parquetref08_In.f N a1 a2 a3).bind fun r4 =>
  bif !r4 then
    some 0
  else
  (parquetref04_Common.f N a1 a2).bind fun r5 =>
  (parquetref04_Common.f N r5 a3).bind fun r6 =>
  some r6
noncomputable def parquetref08_Content.body : Code := (Try.f26.body).getD .skip
noncomputable def parquetref08_Content.ty : List (Nat × TI) := [(2, ty2), (23, ty23)]
noncomputable def parquetref08_Content.E (N : Nat) : Env := { ty := lookN parquetref08_Content.ty, tab := lookN [(35, parquetref08_In.ent N), (39, parquetref04_Common.ent N)], hint := lookN [], cut := lookN [], N := N, res := [.tmp 2], rsh := [.any], nb := 0, ntmps := 14, own := false }
noncomputable def parquetref08_Content.dec (v : V) (bs : List Blk) : Option (Int) := match v, bs with
  | .c (.int .i64 z0), [] => some z0
  | _, _ => none
set_option maxRecDepth 100000 in
theorem parquetref08_Content.f_eq (N : Nat) (a1 : Int) (a2 : Int) (a3 : Int) :
    evFun (parquetref08_Content.E N) parquetref08_Content.body [.agg [.c (.int .i64 a1), .c (.int .i64 a2), .c (.int .i64 a3)]] [] parquetref08_Content.dec = parquetref08_Content.f N a1 a2 a3 := by kernel_rfl
noncomputable def parquetref08_Content.ent (N : Nat) : Entry := { A := Int, fresh := 0, imm := [true], dec := fun args bs => match freezeL 0 (fun _ => .dead) [.recd [.any, .any, .any]] args, bs with
  | some [.agg [.c (.int .i64 a1), .c (.int .i64 a2), .c (.int .i64 a3)]], [] => some (parquetref08_Content.f N a1 a2 a3, fun r => .one (.c (.int .i64 r)) [])
  | _, _ => none }
theorem parquetref08_Content.env (N : Nat) : EnvOK Try.prog (parquetref08_Content.E N) := ⟨(TyOK.cons ty2_ok (TyOK.cons ty23_ok TyOK.nil)), (TabOK.cons (parquetref08_In.ent_ok N) (TabOK.cons (parquetref04_Common.ent_ok N) TabOK.nil))⟩
theorem parquetref08_Content.res_eq (N : Nat) : (parquetref08_Content.E N).res = Try.f26.results.toList := by kernel_rfl
theorem parquetref08_Content.spec (N : Nat) (a1 : Int) (a2 : Int) (a3 : Int) (r : Int) (h : parquetref08_Content.f N a1 a2 a3 = some r) : FnSpec Try.prog 26 [.agg [.c (.int .i64 a1), .c (.int .i64 a2), .c (.int .i64 a3)]] [] (.c (.int .i64 r)) ([]) := by
  rw [← parquetref08_Content.f_eq] at h
  obtain ⟨v, bs', h1, h2⟩ := evFun_ok (parquetref08_Content.env N) Try_mixed Try.func26 (by kernel_rfl : Try.f26.body = some parquetref08_Content.body) (by kernel_rfl) (parquetref08_Content.res_eq N) (by kernel_rfl) (by kernel_rfl) (Nat.le_of_ble_eq_true (by kernel_rfl)) (AllCut.of (l := []) (by kernel_rfl) AllCut.nil) h
  unfold parquetref08_Content.dec at h1; split at h1
  · cases h1; exact h2
  · cases h1
theorem parquetref08_Content.ent_ok (N : Nat) : TabOK1 Try.prog 26 (parquetref08_Content.ent N) := by
  intro args bs a enc h
  simp only [parquetref08_Content.ent] at h
  split at h
  · rename_i hz; have h0 := Option.some.inj h; have h1 := congrArg Prod.fst h0; have h2 := congrArg Prod.snd h0; dsimp only at h1 h2; subst h2; exact FnSpec.of_freeze hz (parquetref08_Content.spec N _ _ _ a h1)
  · cases h
/-! parquet/parquetlaw08.BinaryForms: function 9 -/
noncomputable def parquetlaw08_BinaryForms.f (N : Nat) (a1 : Int) (a2 : Int) (a3 : Int) : Option (Bool) :=
  (binary_Disc.f N a1 a2 a3).bind fun r4 =>
  (parquetref08_Disc.f N a1 a2 a3).bind fun r5 =>
  bif r4 == r5 then
    (binary_Check.f N a1 a2 a3).bind fun r6 =>
    (parquetref08_Check.f N a1 a2 a3).bind fun r7 =>
    bif r6 == r7 then
      (binary_Content.f N a1 a2 a3).bind fun r8 =>
      (parquetref08_Content.f N a1 a2 a3).bind fun r9 =>
      bif r8 == r9 then
        (binary_Reduced.f N a1 a2 a3).bind fun r10 =>
        (parquetref08_Reduced.f N a1 a2 a3).bind fun r11 =>
        (binary_Reduce.f N a1 a2 a3).bind fun r12 =>
        (parquetref08_Reduce.f N a1 a2 a3).bind fun r13 =>
        bif r10 == r11 then
          bif (r12.1 == r13.1) && ((r12.2.1 == r13.2.1) && (r12.2.2.1 == r13.2.2.1)) then
            bif (r12.2.2.2.1 == r13.2.2.2.1) && ((r12.2.2.2.2.1 == r13.2.2.2.2.1) && ((r12.2.2.2.2.2.1 == r13.2.2.2.2.2.1) && (r12.2.2.2.2.2.2.1 == r13.2.2.2.2.2.2.1))) then
              bif r12.2.2.2.2.2.2.2 == r13.2.2.2.2.2.2.2 then
                (parquetlaw08_wakes.f N).bind fun r14 =>
                some r14
              else
              some false
            else
            some false
          else
          some false
        else
        some false
      else
      (binary_Reduce.f N a1 a2 a3).bind fun r15 =>
      (parquetref08_Reduce.f N a1 a2 a3).bind fun r16 =>
      some false
    else
    (binary_Reduce.f N a1 a2 a3).bind fun r17 =>
    (parquetref08_Reduce.f N a1 a2 a3).bind fun r18 =>
    some false
  else
  (binary_Reduce.f N a1 a2 a3).bind fun r19 =>
  (parquetref08_Reduce.f N a1 a2 a3).bind fun r20 =>
  some false
noncomputable def parquetlaw08_BinaryForms.body : Code := (Try.f9.body).getD .skip
noncomputable def parquetlaw08_BinaryForms.ty : List (Nat × TI) := [(2, ty2), (4, ty4), (23, ty23), (33, ty33)]
noncomputable def parquetlaw08_BinaryForms.E (N : Nat) : Env := { ty := lookN parquetlaw08_BinaryForms.ty, tab := lookN [(22, binary_Disc.ent N), (23, parquetref08_Disc.ent N), (19, binary_Check.ent N), (24, parquetref08_Check.ent N), (25, binary_Content.ent N), (26, parquetref08_Content.ent N), (21, binary_Reduced.ent N), (27, parquetref08_Reduced.ent N), (20, binary_Reduce.ent N), (28, parquetref08_Reduce.ent N), (13, parquetlaw08_wakes.ent N)], hint := lookN [], cut := lookN [], N := N, res := [.tmp 2], rsh := [.any], nb := 0, ntmps := 67, own := false }
noncomputable def parquetlaw08_BinaryForms.dec (v : V) (bs : List Blk) : Option (Bool) := match v, bs with
  | .c (.bool z0), [] => some z0
  | _, _ => none
set_option maxRecDepth 100000 in
theorem parquetlaw08_BinaryForms.f_eq (N : Nat) (a1 : Int) (a2 : Int) (a3 : Int) :
    evFun (parquetlaw08_BinaryForms.E N) parquetlaw08_BinaryForms.body [.agg [.c (.int .i64 a1), .c (.int .i64 a2), .c (.int .i64 a3)]] [] parquetlaw08_BinaryForms.dec = parquetlaw08_BinaryForms.f N a1 a2 a3 := by kernel_rfl
noncomputable def parquetlaw08_BinaryForms.ent (N : Nat) : Entry := { A := Bool, fresh := 0, imm := [true], dec := fun args bs => match freezeL 0 (fun _ => .dead) [.recd [.any, .any, .any]] args, bs with
  | some [.agg [.c (.int .i64 a1), .c (.int .i64 a2), .c (.int .i64 a3)]], [] => some (parquetlaw08_BinaryForms.f N a1 a2 a3, fun r => .one (.c (.bool r)) [])
  | _, _ => none }
theorem parquetlaw08_BinaryForms.env (N : Nat) : EnvOK Try.prog (parquetlaw08_BinaryForms.E N) := ⟨(TyOK.cons ty2_ok (TyOK.cons ty4_ok (TyOK.cons ty23_ok (TyOK.cons ty33_ok TyOK.nil)))), (TabOK.cons (binary_Disc.ent_ok N) (TabOK.cons (parquetref08_Disc.ent_ok N) (TabOK.cons (binary_Check.ent_ok N) (TabOK.cons (parquetref08_Check.ent_ok N) (TabOK.cons (binary_Content.ent_ok N) (TabOK.cons (parquetref08_Content.ent_ok N) (TabOK.cons (binary_Reduced.ent_ok N) (TabOK.cons (parquetref08_Reduced.ent_ok N) (TabOK.cons (binary_Reduce.ent_ok N) (TabOK.cons (parquetref08_Reduce.ent_ok N) (TabOK.cons (parquetlaw08_wakes.ent_ok N) TabOK.nil)))))))))))⟩
theorem parquetlaw08_BinaryForms.res_eq (N : Nat) : (parquetlaw08_BinaryForms.E N).res = Try.f9.results.toList := by kernel_rfl
theorem parquetlaw08_BinaryForms.spec (N : Nat) (a1 : Int) (a2 : Int) (a3 : Int) (r : Bool) (h : parquetlaw08_BinaryForms.f N a1 a2 a3 = some r) : FnSpec Try.prog 9 [.agg [.c (.int .i64 a1), .c (.int .i64 a2), .c (.int .i64 a3)]] [] (.c (.bool r)) ([]) := by
  rw [← parquetlaw08_BinaryForms.f_eq] at h
  obtain ⟨v, bs', h1, h2⟩ := evFun_ok (parquetlaw08_BinaryForms.env N) Try_mixed Try.func9 (by kernel_rfl : Try.f9.body = some parquetlaw08_BinaryForms.body) (by kernel_rfl) (parquetlaw08_BinaryForms.res_eq N) (by kernel_rfl) (by kernel_rfl) (Nat.le_of_ble_eq_true (by kernel_rfl)) (AllCut.of (l := []) (by kernel_rfl) AllCut.nil) h
  unfold parquetlaw08_BinaryForms.dec at h1; split at h1
  · cases h1; exact h2
  · cases h1
theorem parquetlaw08_BinaryForms.ent_ok (N : Nat) : TabOK1 Try.prog 9 (parquetlaw08_BinaryForms.ent N) := by
  intro args bs a enc h
  simp only [parquetlaw08_BinaryForms.ent] at h
  split at h
  · rename_i hz; have h0 := Option.some.inj h; have h1 := congrArg Prod.fst h0; have h2 := congrArg Prod.snd h0; dsimp only at h1 h2; subst h2; exact FnSpec.of_freeze hz (parquetlaw08_BinaryForms.spec N _ _ _ a h1)
  · cases h
/-! parquet/parquetlaw08.BinaryKnown: function 10 -/
noncomputable def parquetlaw08_BinaryKnown.f (N : Nat) : Option (Bool) :=
  (binary_Check.f N 1 0 0).bind fun r1 =>
  bif r1 == 81 then
    (binary_Check.f N (-1) 0 (-1)).bind fun r2 =>
    bif r2 == 81 then
      (binary_Check.f N 1 0 1073741825).bind fun r3 =>
      bif r3 == 3 then
        (binary_Check.f N 1048576 0 1048576).bind fun r4 =>
        bif r4 == 80 then
          (binary_Check.f N 1 0 1073741824).bind fun r5 =>
          (binary_Reduce.f N 2 (-2) 3).bind fun r6 =>
          (binary_Reduce.f N 2 (-1) 2).bind fun r7 =>
          bif (r6.1 == 2) && ((r6.2.1 == 2) && (r6.2.2.1 == 3)) then
            bif (r6.2.2.2.1 == 1) && ((r6.2.2.2.2.1 == 1) && ((r6.2.2.2.2.2.1 == 0) && (r6.2.2.2.2.2.2.1 == 1))) then
              bif (r7.1 == 2) && ((r7.2.1 == 1) && (r7.2.2.1 == 2)) then
                (binary_Proper.f N 2 1 3 2 (-1) 3).bind fun r8 =>
                (binary_Act.f N 1 0 1 2 1 1 1).bind fun r9 =>
                (binary_Act.f N 1 0 1 4611686018427387904 0 0 4611686018427387904).bind fun r10 =>
                (binary_Act.f N 1 0 1 32768 32768 0 1).bind fun r11 =>
                bif r11.2.2.2 != 3 then
                  some false
                else
                (binary_Check.f N 1 (-1073741825) 1).bind fun r12 =>
                bif r12 != 3 then
                  some false
                else
                (binary_Disc.f N 0 (-1073741825) 0).bind fun r13 =>
                bif r13 != 0 then
                  some false
                else
                bif !r8.1 then
                  bif r8.2 == 0 then
                    bif r9.2.2.2 == 0 then
                      bif (r9.1 == 5) && ((r9.2.1 == 6) && (r9.2.2.1 == 2)) then
                        bif r10.2.2.2 == 3 then
                          (binary_Content.f N 4 6 8).bind fun r14 =>
                          bif r14 == 2 then
                            (binary_Disc.f N 1 1 1).bind fun r15 =>
                            bif r15 == (-3) then
                              (binary_Disc.f N 0 (-9223372036854775808) 0).bind fun r16 =>
                              bif r16 == 0 then
                                (binary_Content.f N 0 (-9223372036854775808) 0).bind fun r17 =>
                                (binary_Represents.f N 1 0 1 3).bind fun r18 =>
                                (binary_Represents.f N 1 0 1 0).bind fun r19 =>
                                (binary_Represents.f N 1 0 1073741824 1073741824).bind fun r20 =>
                                bif r5 == 0 then
                                  bif (r7.2.2.2.1 == 0) && ((r7.2.2.2.2.1 == (-1)) && ((r7.2.2.2.2.2.1 == 1) && (r7.2.2.2.2.2.2.1 == 0))) then
                                    bif r17 == 0 then
                                      bif r18.2.2 == 41 then
                                        bif r19.2.2 == 2 then
                                          bif r20.2.2 == 0 then
                                            bif r20.1 == 32768 then
                                              bif r20.2.1 == 0 then
                                                (parquetlaw08_wakes.f N).bind fun r21 =>
                                                some r21
                                              else
                                              some false
                                            else
                                            some false
                                          else
                                          some false
                                        else
                                        some false
                                      else
                                      some false
                                    else
                                    some false
                                  else
                                  some false
                                else
                                some false
                              else
                              (binary_Represents.f N 1 0 1 3).bind fun r22 =>
                              (binary_Represents.f N 1 0 1 0).bind fun r23 =>
                              (binary_Represents.f N 1 0 1073741824 1073741824).bind fun r24 =>
                              bif r5 == 0 then
                                bif (r7.2.2.2.1 == 0) && ((r7.2.2.2.2.1 == (-1)) && ((r7.2.2.2.2.2.1 == 1) && (r7.2.2.2.2.2.2.1 == 0))) then
                                  some false
                                else
                                some false
                              else
                              some false
                            else
                            (binary_Represents.f N 1 0 1 3).bind fun r25 =>
                            (binary_Represents.f N 1 0 1 0).bind fun r26 =>
                            (binary_Represents.f N 1 0 1073741824 1073741824).bind fun r27 =>
                            bif r5 == 0 then
                              bif (r7.2.2.2.1 == 0) && ((r7.2.2.2.2.1 == (-1)) && ((r7.2.2.2.2.2.1 == 1) && (r7.2.2.2.2.2.2.1 == 0))) then
                                some false
                              else
                              some false
                            else
                            some false
                          else
                          (binary_Represents.f N 1 0 1 3).bind fun r28 =>
                          (binary_Represents.f N 1 0 1 0).bind fun r29 =>
                          (binary_Represents.f N 1 0 1073741824 1073741824).bind fun r30 =>
                          bif r5 == 0 then
                            bif (r7.2.2.2.1 == 0) && ((r7.2.2.2.2.1 == (-1)) && ((r7.2.2.2.2.2.1 == 1) && (r7.2.2.2.2.2.2.1 == 0))) then
                              some false
                            else
                            some false
                          else
                          some false
                        else
                        (binary_Represents.f N 1 0 1 3).bind fun r31 =>
                        (binary_Represents.f N 1 0 1 0).bind fun r32 =>
                        (binary_Represents.f N 1 0 1073741824 1073741824).bind fun r33 =>
                        bif r5 == 0 then
                          bif (r7.2.2.2.1 == 0) && ((r7.2.2.2.2.1 == (-1)) && ((r7.2.2.2.2.2.1 == 1) && (r7.2.2.2.2.2.2.1 == 0))) then
                            some false
                          else
                          some false
                        else
                        some false
                      else
                      (binary_Represents.f N 1 0 1 3).bind fun r34 =>
                      (binary_Represents.f N 1 0 1 0).bind fun r35 =>
                      (binary_Represents.f N 1 0 1073741824 1073741824).bind fun r36 =>
                      bif r5 == 0 then
                        bif (r7.2.2.2.1 == 0) && ((r7.2.2.2.2.1 == (-1)) && ((r7.2.2.2.2.2.1 == 1) && (r7.2.2.2.2.2.2.1 == 0))) then
                          some false
                        else
                        some false
                      else
                      some false
                    else
                    (binary_Represents.f N 1 0 1 3).bind fun r37 =>
                    (binary_Represents.f N 1 0 1 0).bind fun r38 =>
                    (binary_Represents.f N 1 0 1073741824 1073741824).bind fun r39 =>
                    bif r5 == 0 then
                      bif (r7.2.2.2.1 == 0) && ((r7.2.2.2.2.1 == (-1)) && ((r7.2.2.2.2.2.1 == 1) && (r7.2.2.2.2.2.2.1 == 0))) then
                        some false
                      else
                      some false
                    else
                    some false
                  else
                  (binary_Represents.f N 1 0 1 3).bind fun r40 =>
                  (binary_Represents.f N 1 0 1 0).bind fun r41 =>
                  (binary_Represents.f N 1 0 1073741824 1073741824).bind fun r42 =>
                  bif r5 == 0 then
                    bif (r7.2.2.2.1 == 0) && ((r7.2.2.2.2.1 == (-1)) && ((r7.2.2.2.2.2.1 == 1) && (r7.2.2.2.2.2.2.1 == 0))) then
                      some false
                    else
                    some false
                  else
                  some false
                else
                (binary_Represents.f N 1 0 1 3).bind fun r43 =>
                (binary_Represents.f N 1 0 1 0).bind fun r44 =>
                (binary_Represents.f N 1 0 1073741824 1073741824).bind fun r45 =>
                bif r5 == 0 then
                  bif (r7.2.2.2.1 == 0) && ((r7.2.2.2.2.1 == (-1)) && ((r7.2.2.2.2.2.1 == 1) && (r7.2.2.2.2.2.2.1 == 0))) then
                    some false
                  else
                  some false
                else
                some false
              else
              (binary_Proper.f N 2 1 3 2 (-1) 3).bind fun r46 =>
              (binary_Act.f N 1 0 1 2 1 1 1).bind fun r47 =>
              (binary_Act.f N 1 0 1 4611686018427387904 0 0 4611686018427387904).bind fun r48 =>
              (binary_Act.f N 1 0 1 32768 32768 0 1).bind fun r49 =>
              bif r49.2.2.2 != 3 then
                some false
              else
              (binary_Check.f N 1 (-1073741825) 1).bind fun r50 =>
              bif r50 != 3 then
                some false
              else
              (binary_Disc.f N 0 (-1073741825) 0).bind fun r51 =>
              bif r51 != 0 then
                some false
              else
              bif !r46.1 then
                bif r46.2 == 0 then
                  bif r47.2.2.2 == 0 then
                    bif (r47.1 == 5) && ((r47.2.1 == 6) && (r47.2.2.1 == 2)) then
                      bif r48.2.2.2 == 3 then
                        (binary_Content.f N 4 6 8).bind fun r52 =>
                        bif r52 == 2 then
                          (binary_Disc.f N 1 1 1).bind fun r53 =>
                          bif r53 == (-3) then
                            (binary_Disc.f N 0 (-9223372036854775808) 0).bind fun r54 =>
                            bif r54 == 0 then
                              (binary_Content.f N 0 (-9223372036854775808) 0).bind fun r55 =>
                              (binary_Represents.f N 1 0 1 3).bind fun r56 =>
                              (binary_Represents.f N 1 0 1 0).bind fun r57 =>
                              (binary_Represents.f N 1 0 1073741824 1073741824).bind fun r58 =>
                              bif r5 == 0 then
                                some false
                              else
                              some false
                            else
                            (binary_Represents.f N 1 0 1 3).bind fun r59 =>
                            (binary_Represents.f N 1 0 1 0).bind fun r60 =>
                            (binary_Represents.f N 1 0 1073741824 1073741824).bind fun r61 =>
                            bif r5 == 0 then
                              some false
                            else
                            some false
                          else
                          (binary_Represents.f N 1 0 1 3).bind fun r62 =>
                          (binary_Represents.f N 1 0 1 0).bind fun r63 =>
                          (binary_Represents.f N 1 0 1073741824 1073741824).bind fun r64 =>
                          bif r5 == 0 then
                            some false
                          else
                          some false
                        else
                        (binary_Represents.f N 1 0 1 3).bind fun r65 =>
                        (binary_Represents.f N 1 0 1 0).bind fun r66 =>
                        (binary_Represents.f N 1 0 1073741824 1073741824).bind fun r67 =>
                        bif r5 == 0 then
                          some false
                        else
                        some false
                      else
                      (binary_Represents.f N 1 0 1 3).bind fun r68 =>
                      (binary_Represents.f N 1 0 1 0).bind fun r69 =>
                      (binary_Represents.f N 1 0 1073741824 1073741824).bind fun r70 =>
                      bif r5 == 0 then
                        some false
                      else
                      some false
                    else
                    (binary_Represents.f N 1 0 1 3).bind fun r71 =>
                    (binary_Represents.f N 1 0 1 0).bind fun r72 =>
                    (binary_Represents.f N 1 0 1073741824 1073741824).bind fun r73 =>
                    bif r5 == 0 then
                      some false
                    else
                    some false
                  else
                  (binary_Represents.f N 1 0 1 3).bind fun r74 =>
                  (binary_Represents.f N 1 0 1 0).bind fun r75 =>
                  (binary_Represents.f N 1 0 1073741824 1073741824).bind fun r76 =>
                  bif r5 == 0 then
                    some false
                  else
                  some false
                else
                (binary_Represents.f N 1 0 1 3).bind fun r77 =>
                (binary_Represents.f N 1 0 1 0).bind fun r78 =>
                (binary_Represents.f N 1 0 1073741824 1073741824).bind fun r79 =>
                bif r5 == 0 then
                  some false
                else
                some false
              else
              (binary_Represents.f N 1 0 1 3).bind fun r80 =>
              (binary_Represents.f N 1 0 1 0).bind fun r81 =>
              (binary_Represents.f N 1 0 1073741824 1073741824).bind fun r82 =>
              bif r5 == 0 then
                some false
              else
              some false
            else
            (binary_Proper.f N 2 1 3 2 (-1) 3).bind fun r83 =>
            (binary_Act.f N 1 0 1 2 1 1 1).bind fun r84 =>
            (binary_Act.f N 1 0 1 4611686018427387904 0 0 4611686018427387904).bind fun r85 =>
            (binary_Act.f N 1 0 1 32768 32768 0 1).bind fun r86 =>
            bif r86.2.2.2 != 3 then
              some false
            else
            (binary_Check.f N 1 (-1073741825) 1).bind fun r87 =>
            bif r87 != 3 then
              some false
            else
            (binary_Disc.f N 0 (-1073741825) 0).bind fun r88 =>
            bif r88 != 0 then
              some false
            else
            bif !r83.1 then
              bif r83.2 == 0 then
                bif r84.2.2.2 == 0 then
                  bif (r84.1 == 5) && ((r84.2.1 == 6) && (r84.2.2.1 == 2)) then
                    bif r85.2.2.2 == 3 then
                      (binary_Content.f N 4 6 8).bind fun r89 =>
                      bif r89 == 2 then
                        (binary_Disc.f N 1 1 1).bind fun r90 =>
                        bif r90 == (-3) then
                          (binary_Disc.f N 0 (-9223372036854775808) 0).bind fun r91 =>
                          bif r91 == 0 then
                            (binary_Content.f N 0 (-9223372036854775808) 0).bind fun r92 =>
                            (binary_Represents.f N 1 0 1 3).bind fun r93 =>
                            (binary_Represents.f N 1 0 1 0).bind fun r94 =>
                            (binary_Represents.f N 1 0 1073741824 1073741824).bind fun r95 =>
                            bif r5 == 0 then
                              some false
                            else
                            some false
                          else
                          (binary_Represents.f N 1 0 1 3).bind fun r96 =>
                          (binary_Represents.f N 1 0 1 0).bind fun r97 =>
                          (binary_Represents.f N 1 0 1073741824 1073741824).bind fun r98 =>
                          bif r5 == 0 then
                            some false
                          else
                          some false
                        else
                        (binary_Represents.f N 1 0 1 3).bind fun r99 =>
                        (binary_Represents.f N 1 0 1 0).bind fun r100 =>
                        (binary_Represents.f N 1 0 1073741824 1073741824).bind fun r101 =>
                        bif r5 == 0 then
                          some false
                        else
                        some false
                      else
                      (binary_Represents.f N 1 0 1 3).bind fun r102 =>
                      (binary_Represents.f N 1 0 1 0).bind fun r103 =>
                      (binary_Represents.f N 1 0 1073741824 1073741824).bind fun r104 =>
                      bif r5 == 0 then
                        some false
                      else
                      some false
                    else
                    (binary_Represents.f N 1 0 1 3).bind fun r105 =>
                    (binary_Represents.f N 1 0 1 0).bind fun r106 =>
                    (binary_Represents.f N 1 0 1073741824 1073741824).bind fun r107 =>
                    bif r5 == 0 then
                      some false
                    else
                    some false
                  else
                  (binary_Represents.f N 1 0 1 3).bind fun r108 =>
                  (binary_Represents.f N 1 0 1 0).bind fun r109 =>
                  (binary_Represents.f N 1 0 1073741824 1073741824).bind fun r110 =>
                  bif r5 == 0 then
                    some false
                  else
                  some false
                else
                (binary_Represents.f N 1 0 1 3).bind fun r111 =>
                (binary_Represents.f N 1 0 1 0).bind fun r112 =>
                (binary_Represents.f N 1 0 1073741824 1073741824).bind fun r113 =>
                bif r5 == 0 then
                  some false
                else
                some false
              else
              (binary_Represents.f N 1 0 1 3).bind fun r114 =>
              (binary_Represents.f N 1 0 1 0).bind fun r115 =>
              (binary_Represents.f N 1 0 1073741824 1073741824).bind fun r116 =>
              bif r5 == 0 then
                some false
              else
              some false
            else
            (binary_Represents.f N 1 0 1 3).bind fun r117 =>
            (binary_Represents.f N 1 0 1 0).bind fun r118 =>
            (binary_Represents.f N 1 0 1073741824 1073741824).bind fun r119 =>
            bif r5 == 0 then
              some false
            else
            some false
          else
          (binary_Proper.f N 2 1 3 2 (-1) 3).bind fun r120 =>
          (binary_Act.f N 1 0 1 2 1 1 1).bind fun r121 =>
          (binary_Act.f N 1 0 1 4611686018427387904 0 0 4611686018427387904).bind fun r122 =>
          (binary_Act.f N 1 0 1 32768 32768 0 1).bind fun r123 =>
          bif r123.2.2.2 != 3 then
            some false
          else
          (binary_Check.f N 1 (-1073741825) 1).bind fun r124 =>
          bif r124 != 3 then
            some false
          else
          (binary_Disc.f N 0 (-1073741825) 0).bind fun r125 =>
          bif r125 != 0 then
            some false
          else
          bif !r120.1 then
            bif r120.2 == 0 then
              bif r121.2.2.2 == 0 then
                bif (r121.1 == 5) && ((r121.2.1 == 6) && (r121.2.2.1 == 2)) then
                  bif r122.2.2.2 == 3 then
                    (binary_Content.f N 4 6 8).bind fun r126 =>
                    bif r126 == 2 then
                      (binary_Disc.f N 1 1 1).bind fun r127 =>
                      bif r127 == (-3) then
                        (binary_Disc.f N 0 (-9223372036854775808) 0).bind fun r128 =>
                        bif r128 == 0 then
                          (binary_Content.f N 0 (-9223372036854775808) 0).bind fun r129 =>
                          (binary_Represents.f N 1 0 1 3).bind fun r130 =>
                          (binary_Represents.f N 1 0 1 0).bind fun r131 =>
                          (binary_Represents.f N 1 0 1073741824 1073741824).bind fun r132 =>
                          bif r5 == 0 then
                            some false
                          else
                          some false
                        else
                        (binary_Represents.f N 1 0 1 3).bind fun r133 =>
                        (binary_Represents.f N 1 0 1 0).bind fun r134 =>
                        (binary_Represents.f N 1 0 1073741824 1073741824).bind fun r135 =>
                        bif r5 == 0 then
                          some false
                        else
                        some false
                      else
                      (binary_Represents.f N 1 0 1 3).bind fun r136 =>
                      (binary_Represents.f N 1 0 1 0).bind fun r137 =>
                      (binary_Represents.f N 1 0 1073741824 1073741824).bind fun r138 =>
                      bif r5 == 0 then
                        some false
                      else
                      some false
                    else
                    (binary_Represents.f N 1 0 1 3).bind fun r139 =>
                    (binary_Represents.f N 1 0 1 0).bind fun r140 =>
                    (binary_Represents.f N 1 0 1073741824 1073741824).bind fun r141 =>
                    bif r5 == 0 then
                      some false
                    else
                    some false
                  else
                  (binary_Represents.f N 1 0 1 3).bind fun r142 =>
                  (binary_Represents.f N 1 0 1 0).bind fun r143 =>
                  (binary_Represents.f N 1 0 1073741824 1073741824).bind fun r144 =>
                  bif r5 == 0 then
                    some false
                  else
                  some false
                else
                (binary_Represents.f N 1 0 1 3).bind fun r145 =>
                (binary_Represents.f N 1 0 1 0).bind fun r146 =>
                (binary_Represents.f N 1 0 1073741824 1073741824).bind fun r147 =>
                bif r5 == 0 then
                  some false
                else
                some false
              else
              (binary_Represents.f N 1 0 1 3).bind fun r148 =>
              (binary_Represents.f N 1 0 1 0).bind fun r149 =>
              (binary_Represents.f N 1 0 1073741824 1073741824).bind fun r150 =>
              bif r5 == 0 then
                some false
              else
              some false
            else
            (binary_Represents.f N 1 0 1 3).bind fun r151 =>
            (binary_Represents.f N 1 0 1 0).bind fun r152 =>
            (binary_Represents.f N 1 0 1073741824 1073741824).bind fun r153 =>
            bif r5 == 0 then
              some false
            else
            some false
          else
          (binary_Represents.f N 1 0 1 3).bind fun r154 =>
          (binary_Represents.f N 1 0 1 0).bind fun r155 =>
          (binary_Represents.f N 1 0 1073741824 1073741824).bind fun r156 =>
          bif r5 == 0 then
            some false
          else
          some false
        else
        (binary_Reduce.f N 2 (-2) 3).bind fun r157 =>
        (binary_Reduce.f N 2 (-1) 2).bind fun r158 =>
        bif (r157.1 == 2) && ((r157.2.1 == 2) && (r157.2.2.1 == 3)) then
          bif (r157.2.2.2.1 == 1) && ((r157.2.2.2.2.1 == 1) && ((r157.2.2.2.2.2.1 == 0) && (r157.2.2.2.2.2.2.1 == 1))) then
            bif (r158.1 == 2) && ((r158.2.1 == 1) && (r158.2.2.1 == 2)) then
              (binary_Proper.f N 2 1 3 2 (-1) 3).bind fun r159 =>
              (binary_Act.f N 1 0 1 2 1 1 1).bind fun r160 =>
              (binary_Act.f N 1 0 1 4611686018427387904 0 0 4611686018427387904).bind fun r161 =>
              (binary_Act.f N 1 0 1 32768 32768 0 1).bind fun r162 =>
              bif r162.2.2.2 != 3 then
                some false
              else
              (binary_Check.f N 1 (-1073741825) 1).bind fun r163 =>
              bif r163 != 3 then
                some false
              else
              (binary_Disc.f N 0 (-1073741825) 0).bind fun r164 =>
              bif r164 != 0 then
                some false
              else
              bif !r159.1 then
                bif r159.2 == 0 then
                  bif r160.2.2.2 == 0 then
                    bif (r160.1 == 5) && ((r160.2.1 == 6) && (r160.2.2.1 == 2)) then
                      bif r161.2.2.2 == 3 then
                        (binary_Content.f N 4 6 8).bind fun r165 =>
                        bif r165 == 2 then
                          (binary_Disc.f N 1 1 1).bind fun r166 =>
                          bif r166 == (-3) then
                            (binary_Disc.f N 0 (-9223372036854775808) 0).bind fun r167 =>
                            bif r167 == 0 then
                              (binary_Content.f N 0 (-9223372036854775808) 0).bind fun r168 =>
                              (binary_Represents.f N 1 0 1 3).bind fun r169 =>
                              (binary_Represents.f N 1 0 1 0).bind fun r170 =>
                              (binary_Represents.f N 1 0 1073741824 1073741824).bind fun r171 =>
                              some false
                            else
                            (binary_Represents.f N 1 0 1 3).bind fun r172 =>
                            (binary_Represents.f N 1 0 1 0).bind fun r173 =>
                            (binary_Represents.f N 1 0 1073741824 1073741824).bind fun r174 =>
                            some false
                          else
                          (binary_Represents.f N 1 0 1 3).bind fun r175 =>
                          (binary_Represents.f N 1 0 1 0).bind fun r176 =>
                          (binary_Represents.f N 1 0 1073741824 1073741824).bind fun r177 =>
                          some false
                        else
                        (binary_Represents.f N 1 0 1 3).bind fun r178 =>
                        (binary_Represents.f N 1 0 1 0).bind fun r179 =>
                        (binary_Represents.f N 1 0 1073741824 1073741824).bind fun r180 =>
                        some false
                      else
                      (binary_Represents.f N 1 0 1 3).bind fun r181 =>
                      (binary_Represents.f N 1 0 1 0).bind fun r182 =>
                      (binary_Represents.f N 1 0 1073741824 1073741824).bind fun r183 =>
                      some false
                    else
                    (binary_Represents.f N 1 0 1 3).bind fun r184 =>
                    (binary_Represents.f N 1 0 1 0).bind fun r185 =>
                    (binary_Represents.f N 1 0 1073741824 1073741824).bind fun r186 =>
                    some false
                  else
                  (binary_Represents.f N 1 0 1 3).bind fun r187 =>
                  (binary_Represents.f N 1 0 1 0).bind fun r188 =>
                  (binary_Represents.f N 1 0 1073741824 1073741824).bind fun r189 =>
                  some false
                else
                (binary_Represents.f N 1 0 1 3).bind fun r190 =>
                (binary_Represents.f N 1 0 1 0).bind fun r191 =>
                (binary_Represents.f N 1 0 1073741824 1073741824).bind fun r192 =>
                some false
              else
              (binary_Represents.f N 1 0 1 3).bind fun r193 =>
              (binary_Represents.f N 1 0 1 0).bind fun r194 =>
              (binary_Represents.f N 1 0 1073741824 1073741824).bind fun r195 =>
              some false
            else
            (binary_Proper.f N 2 1 3 2 (-1) 3).bind fun r196 =>
            (binary_Act.f N 1 0 1 2 1 1 1).bind fun r197 =>
            (binary_Act.f N 1 0 1 4611686018427387904 0 0 4611686018427387904).bind fun r198 =>
            (binary_Act.f N 1 0 1 32768 32768 0 1).bind fun r199 =>
            bif r199.2.2.2 != 3 then
              some false
            else
            (binary_Check.f N 1 (-1073741825) 1).bind fun r200 =>
            bif r200 != 3 then
              some false
            else
            (binary_Disc.f N 0 (-1073741825) 0).bind fun r201 =>
            bif r201 != 0 then
              some false
            else
            bif !r196.1 then
              bif r196.2 == 0 then
                bif r197.2.2.2 == 0 then
                  bif (r197.1 == 5) && ((r197.2.1 == 6) && (r197.2.2.1 == 2)) then
                    bif r198.2.2.2 == 3 then
                      (binary_Content.f N 4 6 8).bind fun r202 =>
                      bif r202 == 2 then
                        (binary_Disc.f N 1 1 1).bind fun r203 =>
                        bif r203 == (-3) then
                          (binary_Disc.f N 0 (-9223372036854775808) 0).bind fun r204 =>
                          bif r204 == 0 then
                            (binary_Content.f N 0 (-9223372036854775808) 0).bind fun r205 =>
                            (binary_Represents.f N 1 0 1 3).bind fun r206 =>
                            (binary_Represents.f N 1 0 1 0).bind fun r207 =>
                            (binary_Represents.f N 1 0 1073741824 1073741824).bind fun r208 =>
                            some false
                          else
                          (binary_Represents.f N 1 0 1 3).bind fun r209 =>
                          (binary_Represents.f N 1 0 1 0).bind fun r210 =>
                          (binary_Represents.f N 1 0 1073741824 1073741824).bind fun r211 =>
                          some false
                        else
                        (binary_Represents.f N 1 0 1 3).bind fun r212 =>
                        (binary_Represents.f N 1 0 1 0).bind fun r213 =>
                        (binary_Represents.f N 1 0 1073741824 1073741824).bind fun r214 =>
                        some false
                      else
                      (binary_Represents.f N 1 0 1 3).bind fun r215 =>
                      (binary_Represents.f N 1 0 1 0).bind fun r216 =>
                      (binary_Represents.f N 1 0 1073741824 1073741824).bind fun r217 =>
                      some false
                    else
                    (binary_Represents.f N 1 0 1 3).bind fun r218 =>
                    (binary_Represents.f N 1 0 1 0).bind fun r219 =>
                    (binary_Represents.f N 1 0 1073741824 1073741824).bind fun r220 =>
                    some false
                  else
                  (binary_Represents.f N 1 0 1 3).bind fun r221 =>
                  (binary_Represents.f N 1 0 1 0).bind fun r222 =>
                  (binary_Represents.f N 1 0 1073741824 1073741824).bind fun r223 =>
                  some false
                else
                (binary_Represents.f N 1 0 1 3).bind fun r224 =>
                (binary_Represents.f N 1 0 1 0).bind fun r225 =>
                (binary_Represents.f N 1 0 1073741824 1073741824).bind fun r226 =>
                some false
              else
              (binary_Represents.f N 1 0 1 3).bind fun r227 =>
              (binary_Represents.f N 1 0 1 0).bind fun r228 =>
              (binary_Represents.f N 1 0 1073741824 1073741824).bind fun r229 =>
              some false
            else
            (binary_Represents.f N 1 0 1 3).bind fun r230 =>
            (binary_Represents.f N 1 0 1 0).bind fun r231 =>
            (binary_Represents.f N 1 0 1073741824 1073741824).bind fun r232 =>
            some false
          else
          (binary_Proper.f N 2 1 3 2 (-1) 3).bind fun r233 =>
          (binary_Act.f N 1 0 1 2 1 1 1).bind fun r234 =>
          (binary_Act.f N 1 0 1 4611686018427387904 0 0 4611686018427387904).bind fun r235 =>
          (binary_Act.f N 1 0 1 32768 32768 0 1).bind fun r236 =>
          bif r236.2.2.2 != 3 then
            some false
          else
          (binary_Check.f N 1 (-1073741825) 1).bind fun r237 =>
          bif r237 != 3 then
            some false
          else
          (binary_Disc.f N 0 (-1073741825) 0).bind fun r238 =>
          bif r238 != 0 then
            some false
          else
          bif !r233.1 then
            bif r233.2 == 0 then
              bif r234.2.2.2 == 0 then
                bif (r234.1 == 5) && ((r234.2.1 == 6) && (r234.2.2.1 == 2)) then
                  bif r235.2.2.2 == 3 then
                    (binary_Content.f N 4 6 8).bind fun r239 =>
                    bif r239 == 2 then
                      (binary_Disc.f N 1 1 1).bind fun r240 =>
                      bif r240 == (-3) then
                        (binary_Disc.f N 0 (-9223372036854775808) 0).bind fun r241 =>
                        bif r241 == 0 then
                          (binary_Content.f N 0 (-9223372036854775808) 0).bind fun r242 =>
                          (binary_Represents.f N 1 0 1 3).bind fun r243 =>
                          (binary_Represents.f N 1 0 1 0).bind fun r244 =>
                          (binary_Represents.f N 1 0 1073741824 1073741824).bind fun r245 =>
                          some false
                        else
                        (binary_Represents.f N 1 0 1 3).bind fun r246 =>
                        (binary_Represents.f N 1 0 1 0).bind fun r247 =>
                        (binary_Represents.f N 1 0 1073741824 1073741824).bind fun r248 =>
                        some false
                      else
                      (binary_Represents.f N 1 0 1 3).bind fun r249 =>
                      (binary_Represents.f N 1 0 1 0).bind fun r250 =>
                      (binary_Represents.f N 1 0 1073741824 1073741824).bind fun r251 =>
                      some false
                    else
                    (binary_Represents.f N 1 0 1 3).bind fun r252 =>
                    (binary_Represents.f N 1 0 1 0).bind fun r253 =>
                    (binary_Represents.f N 1 0 1073741824 1073741824).bind fun r254 =>
                    some false
                  else
                  (binary_Represents.f N 1 0 1 3).bind fun r255 =>
                  (binary_Represents.f N 1 0 1 0).bind fun r256 =>
                  (binary_Represents.f N 1 0 1073741824 1073741824).bind fun r257 =>
                  some false
                else
                (binary_Represents.f N 1 0 1 3).bind fun r258 =>
                (binary_Represents.f N 1 0 1 0).bind fun r259 =>
                (binary_Represents.f N 1 0 1073741824 1073741824).bind fun r260 =>
                some false
              else
              (binary_Represents.f N 1 0 1 3).bind fun r261 =>
              (binary_Represents.f N 1 0 1 0).bind fun r262 =>
              (binary_Represents.f N 1 0 1073741824 1073741824).bind fun r263 =>
              some false
            else
            (binary_Represents.f N 1 0 1 3).bind fun r264 =>
            (binary_Represents.f N 1 0 1 0).bind fun r265 =>
            (binary_Represents.f N 1 0 1073741824 1073741824).bind fun r266 =>
            some false
          else
          (binary_Represents.f N 1 0 1 3).bind fun r267 =>
          (binary_Represents.f N 1 0 1 0).bind fun r268 =>
          (binary_Represents.f N 1 0 1073741824 1073741824).bind fun r269 =>
          some false
        else
        (binary_Proper.f N 2 1 3 2 (-1) 3).bind fun r270 =>
        (binary_Act.f N 1 0 1 2 1 1 1).bind fun r271 =>
        (binary_Act.f N 1 0 1 4611686018427387904 0 0 4611686018427387904).bind fun r272 =>
        (binary_Act.f N 1 0 1 32768 32768 0 1).bind fun r273 =>
        bif r273.2.2.2 != 3 then
          some false
        else
        (binary_Check.f N 1 (-1073741825) 1).bind fun r274 =>
        bif r274 != 3 then
          some false
        else
        (binary_Disc.f N 0 (-1073741825) 0).bind fun r275 =>
        bif r275 != 0 then
          some false
        else
        bif !r270.1 then
          bif r270.2 == 0 then
            bif r271.2.2.2 == 0 then
              bif (r271.1 == 5) && ((r271.2.1 == 6) && (r271.2.2.1 == 2)) then
                bif r272.2.2.2 == 3 then
                  (binary_Content.f N 4 6 8).bind fun r276 =>
                  bif r276 == 2 then
                    (binary_Disc.f N 1 1 1).bind fun r277 =>
                    bif r277 == (-3) then
                      (binary_Disc.f N 0 (-9223372036854775808) 0).bind fun r278 =>
                      bif r278 == 0 then
                        (binary_Content.f N 0 (-9223372036854775808) 0).bind fun r279 =>
                        (binary_Represents.f N 1 0 1 3).bind fun r280 =>
                        (binary_Represents.f N 1 0 1 0).bind fun r281 =>
                        (binary_Represents.f N 1 0 1073741824 1073741824).bind fun r282 =>
                        some false
                      else
                      (binary_Represents.f N 1 0 1 3).bind fun r283 =>
                      (binary_Represents.f N 1 0 1 0).bind fun r284 =>
                      (binary_Represents.f N 1 0 1073741824 1073741824).bind fun r285 =>
                      some false
                    else
                    (binary_Represents.f N 1 0 1 3).bind fun r286 =>
                    (binary_Represents.f N 1 0 1 0).bind fun r287 =>
                    (binary_Represents.f N 1 0 1073741824 1073741824).bind fun r288 =>
                    some false
                  else
                  (binary_Represents.f N 1 0 1 3).bind fun r289 =>
                  (binary_Represents.f N 1 0 1 0).bind fun r290 =>
                  (binary_Represents.f N 1 0 1073741824 1073741824).bind fun r291 =>
                  some false
                else
                (binary_Represents.f N 1 0 1 3).bind fun r292 =>
                (binary_Represents.f N 1 0 1 0).bind fun r293 =>
                (binary_Represents.f N 1 0 1073741824 1073741824).bind fun r294 =>
                some false
              else
              (binary_Represents.f N 1 0 1 3).bind fun r295 =>
              (binary_Represents.f N 1 0 1 0).bind fun r296 =>
              (binary_Represents.f N 1 0 1073741824 1073741824).bind fun r297 =>
              some false
            else
            (binary_Represents.f N 1 0 1 3).bind fun r298 =>
            (binary_Represents.f N 1 0 1 0).bind fun r299 =>
            (binary_Represents.f N 1 0 1073741824 1073741824).bind fun r300 =>
            some false
          else
          (binary_Represents.f N 1 0 1 3).bind fun r301 =>
          (binary_Represents.f N 1 0 1 0).bind fun r302 =>
          (binary_Represents.f N 1 0 1073741824 1073741824).bind fun r303 =>
          some false
        else
        (binary_Represents.f N 1 0 1 3).bind fun r304 =>
        (binary_Represents.f N 1 0 1 0).bind fun r305 =>
        (binary_Represents.f N 1 0 1073741824 1073741824).bind fun r306 =>
        some false
      else
      (binary_Reduce.f N 2 (-2) 3).bind fun r307 =>
      (binary_Reduce.f N 2 (-1) 2).bind fun r308 =>
      bif (r307.1 == 2) && ((r307.2.1 == 2) && (r307.2.2.1 == 3)) then
        bif (r307.2.2.2.1 == 1) && ((r307.2.2.2.2.1 == 1) && ((r307.2.2.2.2.2.1 == 0) && (r307.2.2.2.2.2.2.1 == 1))) then
          bif (r308.1 == 2) && ((r308.2.1 == 1) && (r308.2.2.1 == 2)) then
            (binary_Proper.f N 2 1 3 2 (-1) 3).bind fun r309 =>
            (binary_Act.f N 1 0 1 2 1 1 1).bind fun r310 =>
            (binary_Act.f N 1 0 1 4611686018427387904 0 0 4611686018427387904).bind fun r311 =>
            (binary_Act.f N 1 0 1 32768 32768 0 1).bind fun r312 =>
            bif r312.2.2.2 != 3 then
              some false
            else
            (binary_Check.f N 1 (-1073741825) 1).bind fun r313 =>
            bif r313 != 3 then
              some false
            else
            (binary_Disc.f N 0 (-1073741825) 0).bind fun r314 =>
            bif r314 != 0 then
              some false
            else
            bif !r309.1 then
              bif r309.2 == 0 then
                bif r310.2.2.2 == 0 then
                  bif (r310.1 == 5) && ((r310.2.1 == 6) && (r310.2.2.1 == 2)) then
                    bif r311.2.2.2 == 3 then
                      (binary_Content.f N 4 6 8).bind fun r315 =>
                      bif r315 == 2 then
                        (binary_Disc.f N 1 1 1).bind fun r316 =>
                        bif r316 == (-3) then
                          (binary_Disc.f N 0 (-9223372036854775808) 0).bind fun r317 =>
                          bif r317 == 0 then
                            (binary_Content.f N 0 (-9223372036854775808) 0).bind fun r318 =>
                            (binary_Represents.f N 1 0 1 3).bind fun r319 =>
                            (binary_Represents.f N 1 0 1 0).bind fun r320 =>
                            (binary_Represents.f N 1 0 1073741824 1073741824).bind fun r321 =>
                            some false
                          else
                          (binary_Represents.f N 1 0 1 3).bind fun r322 =>
                          (binary_Represents.f N 1 0 1 0).bind fun r323 =>
                          (binary_Represents.f N 1 0 1073741824 1073741824).bind fun r324 =>
                          some false
                        else
                        (binary_Represents.f N 1 0 1 3).bind fun r325 =>
                        (binary_Represents.f N 1 0 1 0).bind fun r326 =>
                        (binary_Represents.f N 1 0 1073741824 1073741824).bind fun r327 =>
                        some false
                      else
                      (binary_Represents.f N 1 0 1 3).bind fun r328 =>
                      (binary_Represents.f N 1 0 1 0).bind fun r329 =>
                      (binary_Represents.f N 1 0 1073741824 1073741824).bind fun r330 =>
                      some false
                    else
                    (binary_Represents.f N 1 0 1 3).bind fun r331 =>
                    (binary_Represents.f N 1 0 1 0).bind fun r332 =>
                    (binary_Represents.f N 1 0 1073741824 1073741824).bind fun r333 =>
                    some false
                  else
                  (binary_Represents.f N 1 0 1 3).bind fun r334 =>
                  (binary_Represents.f N 1 0 1 0).bind fun r335 =>
                  (binary_Represents.f N 1 0 1073741824 1073741824).bind fun r336 =>
                  some false
                else
                (binary_Represents.f N 1 0 1 3).bind fun r337 =>
                (binary_Represents.f N 1 0 1 0).bind fun r338 =>
                (binary_Represents.f N 1 0 1073741824 1073741824).bind fun r339 =>
                some false
              else
              (binary_Represents.f N 1 0 1 3).bind fun r340 =>
              (binary_Represents.f N 1 0 1 0).bind fun r341 =>
              (binary_Represents.f N 1 0 1073741824 1073741824).bind fun r342 =>
              some false
            else
            (binary_Represents.f N 1 0 1 3).bind fun r343 =>
            (binary_Represents.f N 1 0 1 0).bind fun r344 =>
            (binary_Represents.f N 1 0 1073741824 1073741824).bind fun r345 =>
            some false
          else
          (binary_Proper.f N 2 1 3 2 (-1) 3).bind fun r346 =>
          (binary_Act.f N 1 0 1 2 1 1 1).bind fun r347 =>
          (binary_Act.f N 1 0 1 4611686018427387904 0 0 4611686018427387904).bind fun r348 =>
          (binary_Act.f N 1 0 1 32768 32768 0 1).bind fun r349 =>
          bif r349.2.2.2 != 3 then
            some false
          else
          (binary_Check.f N 1 (-1073741825) 1).bind fun r350 =>
          bif r350 != 3 then
            some false
          else
          (binary_Disc.f N 0 (-1073741825) 0).bind fun r351 =>
          bif r351 != 0 then
            some false
          else
          bif !r346.1 then
            bif r346.2 == 0 then
              bif r347.2.2.2 == 0 then
                bif (r347.1 == 5) && ((r347.2.1 == 6) && (r347.2.2.1 == 2)) then
                  bif r348.2.2.2 == 3 then
                    (binary_Content.f N 4 6 8).bind fun r352 =>
                    bif r352 == 2 then
                      (binary_Disc.f N 1 1 1).bind fun r353 =>
                      bif r353 == (-3) then
                        (binary_Disc.f N 0 (-9223372036854775808) 0).bind fun r354 =>
                        bif r354 == 0 then
                          (binary_Content.f N 0 (-9223372036854775808) 0).bind fun r355 =>
                          (binary_Represents.f N 1 0 1 3).bind fun r356 =>
                          (binary_Represents.f N 1 0 1 0).bind fun r357 =>
                          (binary_Represents.f N 1 0 1073741824 1073741824).bind fun r358 =>
                          some false
                        else
                        (binary_Represents.f N 1 0 1 3).bind fun r359 =>
                        (binary_Represents.f N 1 0 1 0).bind fun r360 =>
                        (binary_Represents.f N 1 0 1073741824 1073741824).bind fun r361 =>
                        some false
                      else
                      (binary_Represents.f N 1 0 1 3).bind fun r362 =>
                      (binary_Represents.f N 1 0 1 0).bind fun r363 =>
                      (binary_Represents.f N 1 0 1073741824 1073741824).bind fun r364 =>
                      some false
                    else
                    (binary_Represents.f N 1 0 1 3).bind fun r365 =>
                    (binary_Represents.f N 1 0 1 0).bind fun r366 =>
                    (binary_Represents.f N 1 0 1073741824 1073741824).bind fun r367 =>
                    some false
                  else
                  (binary_Represents.f N 1 0 1 3).bind fun r368 =>
                  (binary_Represents.f N 1 0 1 0).bind fun r369 =>
                  (binary_Represents.f N 1 0 1073741824 1073741824).bind fun r370 =>
                  some false
                else
                (binary_Represents.f N 1 0 1 3).bind fun r371 =>
                (binary_Represents.f N 1 0 1 0).bind fun r372 =>
                (binary_Represents.f N 1 0 1073741824 1073741824).bind fun r373 =>
                some false
              else
              (binary_Represents.f N 1 0 1 3).bind fun r374 =>
              (binary_Represents.f N 1 0 1 0).bind fun r375 =>
              (binary_Represents.f N 1 0 1073741824 1073741824).bind fun r376 =>
              some false
            else
            (binary_Represents.f N 1 0 1 3).bind fun r377 =>
            (binary_Represents.f N 1 0 1 0).bind fun r378 =>
            (binary_Represents.f N 1 0 1073741824 1073741824).bind fun r379 =>
            some false
          else
          (binary_Represents.f N 1 0 1 3).bind fun r380 =>
          (binary_Represents.f N 1 0 1 0).bind fun r381 =>
          (binary_Represents.f N 1 0 1073741824 1073741824).bind fun r382 =>
          some false
        else
        (binary_Proper.f N 2 1 3 2 (-1) 3).bind fun r383 =>
        (binary_Act.f N 1 0 1 2 1 1 1).bind fun r384 =>
        (binary_Act.f N 1 0 1 4611686018427387904 0 0 4611686018427387904).bind fun r385 =>
        (binary_Act.f N 1 0 1 32768 32768 0 1).bind fun r386 =>
        bif r386.2.2.2 != 3 then
          some false
        else
        (binary_Check.f N 1 (-1073741825) 1).bind fun r387 =>
        bif r387 != 3 then
          some false
        else
        (binary_Disc.f N 0 (-1073741825) 0).bind fun r388 =>
        bif r388 != 0 then
          some false
        else
        bif !r383.1 then
          bif r383.2 == 0 then
            bif r384.2.2.2 == 0 then
              bif (r384.1 == 5) && ((r384.2.1 == 6) && (r384.2.2.1 == 2)) then
                bif r385.2.2.2 == 3 then
                  (binary_Content.f N 4 6 8).bind fun r389 =>
                  bif r389 == 2 then
                    (binary_Disc.f N 1 1 1).bind fun r390 =>
                    bif r390 == (-3) then
                      (binary_Disc.f N 0 (-9223372036854775808) 0).bind fun r391 =>
                      bif r391 == 0 then
                        (binary_Content.f N 0 (-9223372036854775808) 0).bind fun r392 =>
                        (binary_Represents.f N 1 0 1 3).bind fun r393 =>
                        (binary_Represents.f N 1 0 1 0).bind fun r394 =>
                        (binary_Represents.f N 1 0 1073741824 1073741824).bind fun r395 =>
                        some false
                      else
                      (binary_Represents.f N 1 0 1 3).bind fun r396 =>
                      (binary_Represents.f N 1 0 1 0).bind fun r397 =>
                      (binary_Represents.f N 1 0 1073741824 1073741824).bind fun r398 =>
                      some false
                    else
                    (binary_Represents.f N 1 0 1 3).bind fun r399 =>
                    (binary_Represents.f N 1 0 1 0).bind fun r400 =>
                    (binary_Represents.f N 1 0 1073741824 1073741824).bind fun r401 =>
                    some false
                  else
                  (binary_Represents.f N 1 0 1 3).bind fun r402 =>
                  (binary_Represents.f N 1 0 1 0).bind fun r403 =>
                  (binary_Represents.f N 1 0 1073741824 1073741824).bind fun r404 =>
                  some false
                else
                (binary_Represents.f N 1 0 1 3).bind fun r405 =>
                (binary_Represents.f N 1 0 1 0).bind fun r406 =>
                (binary_Represents.f N 1 0 1073741824 1073741824).bind fun r407 =>
                some false
              else
              (binary_Represents.f N 1 0 1 3).bind fun r408 =>
              (binary_Represents.f N 1 0 1 0).bind fun r409 =>
              (binary_Represents.f N 1 0 1073741824 1073741824).bind fun r410 =>
              some false
            else
            (binary_Represents.f N 1 0 1 3).bind fun r411 =>
            (binary_Represents.f N 1 0 1 0).bind fun r412 =>
            (binary_Represents.f N 1 0 1073741824 1073741824).bind fun r413 =>
            some false
          else
          (binary_Represents.f N 1 0 1 3).bind fun r414 =>
          (binary_Represents.f N 1 0 1 0).bind fun r415 =>
          (binary_Represents.f N 1 0 1073741824 1073741824).bind fun r416 =>
          some false
        else
        (binary_Represents.f N 1 0 1 3).bind fun r417 =>
        (binary_Represents.f N 1 0 1 0).bind fun r418 =>
        (binary_Represents.f N 1 0 1073741824 1073741824).bind fun r419 =>
        some false
      else
      (binary_Proper.f N 2 1 3 2 (-1) 3).bind fun r420 =>
      (binary_Act.f N 1 0 1 2 1 1 1).bind fun r421 =>
      (binary_Act.f N 1 0 1 4611686018427387904 0 0 4611686018427387904).bind fun r422 =>
      (binary_Act.f N 1 0 1 32768 32768 0 1).bind fun r423 =>
      bif r423.2.2.2 != 3 then
        some false
      else
      (binary_Check.f N 1 (-1073741825) 1).bind fun r424 =>
      bif r424 != 3 then
        some false
      else
      (binary_Disc.f N 0 (-1073741825) 0).bind fun r425 =>
      bif r425 != 0 then
        some false
      else
      bif !r420.1 then
        bif r420.2 == 0 then
          bif r421.2.2.2 == 0 then
            bif (r421.1 == 5) && ((r421.2.1 == 6) && (r421.2.2.1 == 2)) then
              bif r422.2.2.2 == 3 then
                (binary_Content.f N 4 6 8).bind fun r426 =>
                bif r426 == 2 then
                  (binary_Disc.f N 1 1 1).bind fun r427 =>
                  bif r427 == (-3) then
                    (binary_Disc.f N 0 (-9223372036854775808) 0).bind fun r428 =>
                    bif r428 == 0 then
                      (binary_Content.f N 0 (-9223372036854775808) 0).bind fun r429 =>
                      (binary_Represents.f N 1 0 1 3).bind fun r430 =>
                      (binary_Represents.f N 1 0 1 0).bind fun r431 =>
                      (binary_Represents.f N 1 0 1073741824 1073741824).bind fun r432 =>
                      some false
                    else
                    (binary_Represents.f N 1 0 1 3).bind fun r433 =>
                    (binary_Represents.f N 1 0 1 0).bind fun r434 =>
                    (binary_Represents.f N 1 0 1073741824 1073741824).bind fun r435 =>
                    some false
                  else
                  (binary_Represents.f N 1 0 1 3).bind fun r436 =>
                  (binary_Represents.f N 1 0 1 0).bind fun r437 =>
                  (binary_Represents.f N 1 0 1073741824 1073741824).bind fun r438 =>
                  some false
                else
                (binary_Represents.f N 1 0 1 3).bind fun r439 =>
                (binary_Represents.f N 1 0 1 0).bind fun r440 =>
                (binary_Represents.f N 1 0 1073741824 1073741824).bind fun r441 =>
                some false
              else
              (binary_Represents.f N 1 0 1 3).bind fun r442 =>
              (binary_Represents.f N 1 0 1 0).bind fun r443 =>
              (binary_Represents.f N 1 0 1073741824 1073741824).bind fun r444 =>
              some false
            else
            (binary_Represents.f N 1 0 1 3).bind fun r445 =>
            (binary_Represents.f N 1 0 1 0).bind fun r446 =>
            (binary_Represents.f N 1 0 1073741824 1073741824).bind fun r447 =>
            some false
          else
          (binary_Represents.f N 1 0 1 3).bind fun r448 =>
          (binary_Represents.f N 1 0 1 0).bind fun r449 =>
          (binary_Represents.f N 1 0 1073741824 1073741824).bind fun r450 =>
          some false
        else
        (binary_Represents.f N 1 0 1 3).bind fun r451 =>
        (binary_Represents.f N 1 0 1 0).bind fun r452 =>
        (binary_Represents.f N 1 0 1073741824 1073741824).bind fun r453 =>
        some false
      else
      (binary_Represents.f N 1 0 1 3).bind fun r454 =>
      (binary_Represents.f N 1 0 1 0).bind fun r455 =>
      (binary_Represents.f N 1 0 1073741824 1073741824).bind fun r456 =>
      some false
    else
    (binary_Reduce.f N 2 (-2) 3).bind fun r457 =>
    (binary_Reduce.f N 2 (-1) 2).bind fun r458 =>
    bif (r457.1 == 2) && ((r457.2.1 == 2) && (r457.2.2.1 == 3)) then
      bif (r457.2.2.2.1 == 1) && ((r457.2.2.2.2.1 == 1) && ((r457.2.2.2.2.2.1 == 0) && (r457.2.2.2.2.2.2.1 == 1))) then
        bif (r458.1 == 2) && ((r458.2.1 == 1) && (r458.2.2.1 == 2)) then
          (binary_Proper.f N 2 1 3 2 (-1) 3).bind fun r459 =>
          (binary_Act.f N 1 0 1 2 1 1 1).bind fun r460 =>
          (binary_Act.f N 1 0 1 4611686018427387904 0 0 4611686018427387904).bind fun r461 =>
          (binary_Act.f N 1 0 1 32768 32768 0 1).bind fun r462 =>
          bif r462.2.2.2 != 3 then
            some false
          else
          (binary_Check.f N 1 (-1073741825) 1).bind fun r463 =>
          bif r463 != 3 then
            some false
          else
          (binary_Disc.f N 0 (-1073741825) 0).bind fun r464 =>
          bif r464 != 0 then
            some false
          else
          bif !r459.1 then
            bif r459.2 == 0 then
              bif r460.2.2.2 == 0 then
                bif (r460.1 == 5) && ((r460.2.1 == 6) && (r460.2.2.1 == 2)) then
                  bif r461.2.2.2 == 3 then
                    (binary_Content.f N 4 6 8).bind fun r465 =>
                    bif r465 == 2 then
                      (binary_Disc.f N 1 1 1).bind fun r466 =>
                      bif r466 == (-3) then
                        (binary_Disc.f N 0 (-9223372036854775808) 0).bind fun r467 =>
                        bif r467 == 0 then
                          (binary_Content.f N 0 (-9223372036854775808) 0).bind fun r468 =>
                          (binary_Represents.f N 1 0 1 3).bind fun r469 =>
                          (binary_Represents.f N 1 0 1 0).bind fun r470 =>
                          (binary_Represents.f N 1 0 1073741824 1073741824).bind fun r471 =>
                          some false
                        else
                        (binary_Represents.f N 1 0 1 3).bind fun r472 =>
                        (binary_Represents.f N 1 0 1 0).bind fun r473 =>
                        (binary_Represents.f N 1 0 1073741824 1073741824).bind fun r474 =>
                        some false
                      else
                      (binary_Represents.f N 1 0 1 3).bind fun r475 =>
                      (binary_Represents.f N 1 0 1 0).bind fun r476 =>
                      (binary_Represents.f N 1 0 1073741824 1073741824).bind fun r477 =>
                      some false
                    else
                    (binary_Represents.f N 1 0 1 3).bind fun r478 =>
                    (binary_Represents.f N 1 0 1 0).bind fun r479 =>
                    (binary_Represents.f N 1 0 1073741824 1073741824).bind fun r480 =>
                    some false
                  else
                  (binary_Represents.f N 1 0 1 3).bind fun r481 =>
                  (binary_Represents.f N 1 0 1 0).bind fun r482 =>
                  (binary_Represents.f N 1 0 1073741824 1073741824).bind fun r483 =>
                  some false
                else
                (binary_Represents.f N 1 0 1 3).bind fun r484 =>
                (binary_Represents.f N 1 0 1 0).bind fun r485 =>
                (binary_Represents.f N 1 0 1073741824 1073741824).bind fun r486 =>
                some false
              else
              (binary_Represents.f N 1 0 1 3).bind fun r487 =>
              (binary_Represents.f N 1 0 1 0).bind fun r488 =>
              (binary_Represents.f N 1 0 1073741824 1073741824).bind fun r489 =>
              some false
            else
            (binary_Represents.f N 1 0 1 3).bind fun r490 =>
            (binary_Represents.f N 1 0 1 0).bind fun r491 =>
            (binary_Represents.f N 1 0 1073741824 1073741824).bind fun r492 =>
            some false
          else
          (binary_Represents.f N 1 0 1 3).bind fun r493 =>
          (binary_Represents.f N 1 0 1 0).bind fun r494 =>
          (binary_Represents.f N 1 0 1073741824 1073741824).bind fun r495 =>
          some false
        else
        (binary_Proper.f N 2 1 3 2 (-1) 3).bind fun r496 =>
        (binary_Act.f N 1 0 1 2 1 1 1).bind fun r497 =>
        (binary_Act.f N 1 0 1 4611686018427387904 0 0 4611686018427387904).bind fun r498 =>
        (binary_Act.f N 1 0 1 32768 32768 0 1).bind fun r499 =>
        bif r499.2.2.2 != 3 then
          some false
        else
        (binary_Check.f N 1 (-1073741825) 1).bind fun r500 =>
        bif r500 != 3 then
          some false
        else
        (binary_Disc.f N 0 (-1073741825) 0).bind fun r501 =>
        bif r501 != 0 then
          some false
        else
        bif !r496.1 then
          bif r496.2 == 0 then
            bif r497.2.2.2 == 0 then
              bif (r497.1 == 5) && ((r497.2.1 == 6) && (r497.2.2.1 == 2)) then
                bif r498.2.2.2 == 3 then
                  (binary_Content.f N 4 6 8).bind fun r502 =>
                  bif r502 == 2 then
                    (binary_Disc.f N 1 1 1).bind fun r503 =>
                    bif r503 == (-3) then
                      (binary_Disc.f N 0 (-9223372036854775808) 0).bind fun r504 =>
                      bif r504 == 0 then
                        (binary_Content.f N 0 (-9223372036854775808) 0).bind fun r505 =>
                        (binary_Represents.f N 1 0 1 3).bind fun r506 =>
                        (binary_Represents.f N 1 0 1 0).bind fun r507 =>
                        (binary_Represents.f N 1 0 1073741824 1073741824).bind fun r508 =>
                        some false
                      else
                      (binary_Represents.f N 1 0 1 3).bind fun r509 =>
                      (binary_Represents.f N 1 0 1 0).bind fun r510 =>
                      (binary_Represents.f N 1 0 1073741824 1073741824).bind fun r511 =>
                      some false
                    else
                    (binary_Represents.f N 1 0 1 3).bind fun r512 =>
                    (binary_Represents.f N 1 0 1 0).bind fun r513 =>
                    (binary_Represents.f N 1 0 1073741824 1073741824).bind fun r514 =>
                    some false
                  else
                  (binary_Represents.f N 1 0 1 3).bind fun r515 =>
                  (binary_Represents.f N 1 0 1 0).bind fun r516 =>
                  (binary_Represents.f N 1 0 1073741824 1073741824).bind fun r517 =>
                  some false
                else
                (binary_Represents.f N 1 0 1 3).bind fun r518 =>
                (binary_Represents.f N 1 0 1 0).bind fun r519 =>
                (binary_Represents.f N 1 0 1073741824 1073741824).bind fun r520 =>
                some false
              else
              (binary_Represents.f N 1 0 1 3).bind fun r521 =>
              (binary_Represents.f N 1 0 1 0).bind fun r522 =>
              (binary_Represents.f N 1 0 1073741824 1073741824).bind fun r523 =>
              some false
            else
            (binary_Represents.f N 1 0 1 3).bind fun r524 =>
            (binary_Represents.f N 1 0 1 0).bind fun r525 =>
            (binary_Represents.f N 1 0 1073741824 1073741824).bind fun r526 =>
            some false
          else
          (binary_Represents.f N 1 0 1 3).bind fun r527 =>
          (binary_Represents.f N 1 0 1 0).bind fun r528 =>
          (binary_Represents.f N 1 0 1073741824 1073741824).bind fun r529 =>
          some false
        else
        (binary_Represents.f N 1 0 1 3).bind fun r530 =>
        (binary_Represents.f N 1 0 1 0).bind fun r531 =>
        (binary_Represents.f N 1 0 1073741824 1073741824).bind fun r532 =>
        some false
      else
      (binary_Proper.f N 2 1 3 2 (-1) 3).bind fun r533 =>
      (binary_Act.f N 1 0 1 2 1 1 1).bind fun r534 =>
      (binary_Act.f N 1 0 1 4611686018427387904 0 0 4611686018427387904).bind fun r535 =>
      (binary_Act.f N 1 0 1 32768 32768 0 1).bind fun r536 =>
      bif r536.2.2.2 != 3 then
        some false
      else
      (binary_Check.f N 1 (-1073741825) 1).bind fun r537 =>
      bif r537 != 3 then
        some false
      else
      (binary_Disc.f N 0 (-1073741825) 0).bind fun r538 =>
      bif r538 != 0 then
        some false
      else
      bif !r533.1 then
        bif r533.2 == 0 then
          bif r534.2.2.2 == 0 then
            bif (r534.1 == 5) && ((r534.2.1 == 6) && (r534.2.2.1 == 2)) then
              bif r535.2.2.2 == 3 then
                (binary_Content.f N 4 6 8).bind fun r539 =>
                bif r539 == 2 then
                  (binary_Disc.f N 1 1 1).bind fun r540 =>
                  bif r540 == (-3) then
                    (binary_Disc.f N 0 (-9223372036854775808) 0).bind fun r541 =>
                    bif r541 == 0 then
                      (binary_Content.f N 0 (-9223372036854775808) 0).bind fun r542 =>
                      (binary_Represents.f N 1 0 1 3).bind fun r543 =>
                      (binary_Represents.f N 1 0 1 0).bind fun r544 =>
                      (binary_Represents.f N 1 0 1073741824 1073741824).bind fun r545 =>
                      some false
                    else
                    (binary_Represents.f N 1 0 1 3).bind fun r546 =>
                    (binary_Represents.f N 1 0 1 0).bind fun r547 =>
                    (binary_Represents.f N 1 0 1073741824 1073741824).bind fun r548 =>
                    some false
                  else
                  (binary_Represents.f N 1 0 1 3).bind fun r549 =>
                  (binary_Represents.f N 1 0 1 0).bind fun r550 =>
                  (binary_Represents.f N 1 0 1073741824 1073741824).bind fun r551 =>
                  some false
                else
                (binary_Represents.f N 1 0 1 3).bind fun r552 =>
                (binary_Represents.f N 1 0 1 0).bind fun r553 =>
                (binary_Represents.f N 1 0 1073741824 1073741824).bind fun r554 =>
                some false
              else
              (binary_Represents.f N 1 0 1 3).bind fun r555 =>
              (binary_Represents.f N 1 0 1 0).bind fun r556 =>
              (binary_Represents.f N 1 0 1073741824 1073741824).bind fun r557 =>
              some false
            else
            (binary_Represents.f N 1 0 1 3).bind fun r558 =>
            (binary_Represents.f N 1 0 1 0).bind fun r559 =>
            (binary_Represents.f N 1 0 1073741824 1073741824).bind fun r560 =>
            some false
          else
          (binary_Represents.f N 1 0 1 3).bind fun r561 =>
          (binary_Represents.f N 1 0 1 0).bind fun r562 =>
          (binary_Represents.f N 1 0 1073741824 1073741824).bind fun r563 =>
          some false
        else
        (binary_Represents.f N 1 0 1 3).bind fun r564 =>
        (binary_Represents.f N 1 0 1 0).bind fun r565 =>
        (binary_Represents.f N 1 0 1073741824 1073741824).bind fun r566 =>
        some false
      else
      (binary_Represents.f N 1 0 1 3).bind fun r567 =>
      (binary_Represents.f N 1 0 1 0).bind fun r568 =>
      (binary_Represents.f N 1 0 1073741824 1073741824).bind fun r569 =>
      some false
    else
    (binary_Proper.f N 2 1 3 2 (-1) 3).bind fun r570 =>
    (binary_Act.f N 1 0 1 2 1 1 1).bind fun r571 =>
    (binary_Act.f N 1 0 1 4611686018427387904 0 0 4611686018427387904).bind fun r572 =>
    (binary_Act.f N 1 0 1 32768 32768 0 1).bind fun r573 =>
    bif r573.2.2.2 != 3 then
      some false
    else
    (binary_Check.f N 1 (-1073741825) 1).bind fun r574 =>
    bif r574 != 3 then
      some false
    else
    (binary_Disc.f N 0 (-1073741825) 0).bind fun r575 =>
    bif r575 != 0 then
      some false
    else
    bif !r570.1 then
      bif r570.2 == 0 then
        bif r571.2.2.2 == 0 then
          bif (r571.1 == 5) && ((r571.2.1 == 6) && (r571.2.2.1 == 2)) then
            bif r572.2.2.2 == 3 then
              (binary_Content.f N 4 6 8).bind fun r576 =>
              bif r576 == 2 then
                (binary_Disc.f N 1 1 1).bind fun r577 =>
                bif r577 == (-3) then
                  (binary_Disc.f N 0 (-9223372036854775808) 0).bind fun r578 =>
                  bif r578 == 0 then
                    (binary_Content.f N 0 (-9223372036854775808) 0).bind fun r579 =>
                    (binary_Represents.f N 1 0 1 3).bind fun r580 =>
                    (binary_Represents.f N 1 0 1 0).bind fun r581 =>
                    (binary_Represents.f N 1 0 1073741824 1073741824).bind fun r582 =>
                    some false
                  else
                  (binary_Represents.f N 1 0 1 3).bind fun r583 =>
                  (binary_Represents.f N 1 0 1 0).bind fun r584 =>
                  (binary_Represents.f N 1 0 1073741824 1073741824).bind fun r585 =>
                  some false
                else
                (binary_Represents.f N 1 0 1 3).bind fun r586 =>
                (binary_Represents.f N 1 0 1 0).bind fun r587 =>
                (binary_Represents.f N 1 0 1073741824 1073741824).bind fun r588 =>
                some false
              else
              (binary_Represents.f N 1 0 1 3).bind fun r589 =>
              (binary_Represents.f N 1 0 1 0).bind fun r590 =>
              (binary_Represents.f N 1 0 1073741824 1073741824).bind fun r591 =>
              some false
            else
            (binary_Represents.f N 1 0 1 3).bind fun r592 =>
            (binary_Represents.f N 1 0 1 0).bind fun r593 =>
            (binary_Represents.f N 1 0 1073741824 1073741824).bind fun r594 =>
            some false
          else
          (binary_Represents.f N 1 0 1 3).bind fun r595 =>
          (binary_Represents.f N 1 0 1 0).bind fun r596 =>
          (binary_Represents.f N 1 0 1073741824 1073741824).bind fun r597 =>
          some false
        else
        (binary_Represents.f N 1 0 1 3).bind fun r598 =>
        (binary_Represents.f N 1 0 1 0).bind fun r599 =>
        (binary_Represents.f N 1 0 1073741824 1073741824).bind fun r600 =>
        some false
      else
      (binary_Represents.f N 1 0 1 3).bind fun r601 =>
      (binary_Represents.f N 1 0 1 0).bind fun r602 =>
      (binary_Represents.f N 1 0 1073741824 1073741824).bind fun r603 =>
      some false
    else
    (binary_Represents.f N 1 0 1 3).bind fun r604 =>
    (binary_Represents.f N 1 0 1 0).bind fun r605 =>
    (binary_Represents.f N 1 0 1073741824 1073741824).bind fun r606 =>
    some false
  else
  (binary_Reduce.f N 2 (-2) 3).bind fun r607 =>
  (binary_Reduce.f N 2 (-1) 2).bind fun r608 =>
  bif (r607.1 == 2) && ((r607.2.1 == 2) && (r607.2.2.1 == 3)) then
    bif (r607.2.2.2.1 == 1) && ((r607.2.2.2.2.1 == 1) && ((r607.2.2.2.2.2.1 == 0) && (r607.2.2.2.2.2.2.1 == 1))) then
      bif (r608.1 == 2) && ((r608.2.1 == 1) && (r608.2.2.1 == 2)) then
        (binary_Proper.f N 2 1 3 2 (-1) 3).bind fun r609 =>
        (binary_Act.f N 1 0 1 2 1 1 1).bind fun r610 =>
        (binary_Act.f N 1 0 1 4611686018427387904 0 0 4611686018427387904).bind fun r611 =>
        (binary_Act.f N 1 0 1 32768 32768 0 1).bind fun r612 =>
        bif r612.2.2.2 != 3 then
          some false
        else
        (binary_Check.f N 1 (-1073741825) 1).bind fun r613 =>
        bif r613 != 3 then
          some false
        else
        (binary_Disc.f N 0 (-1073741825) 0).bind fun r614 =>
        bif r614 != 0 then
          some false
        else
        bif !r609.1 then
          bif r609.2 == 0 then
            bif r610.2.2.2 == 0 then
              bif (r610.1 == 5) && ((r610.2.1 == 6) && (r610.2.2.1 == 2)) then
                bif r611.2.2.2 == 3 then
                  (binary_Content.f N 4 6 8).bind fun r615 =>
                  bif r615 == 2 then
                    (binary_Disc.f N 1 1 1).bind fun r616 =>
                    bif r616 == (-3) then
                      (binary_Disc.f N 0 (-9223372036854775808) 0).bind fun r617 =>
                      bif r617 == 0 then
                        (binary_Content.f N 0 (-9223372036854775808) 0).bind fun r618 =>
                        (binary_Represents.f N 1 0 1 3).bind fun r619 =>
                        (binary_Represents.f N 1 0 1 0).bind fun r620 =>
                        (binary_Represents.f N 1 0 1073741824 1073741824).bind fun r621 =>
                        some false
                      else
                      (binary_Represents.f N 1 0 1 3).bind fun r622 =>
                      (binary_Represents.f N 1 0 1 0).bind fun r623 =>
                      (binary_Represents.f N 1 0 1073741824 1073741824).bind fun r624 =>
                      some false
                    else
                    (binary_Represents.f N 1 0 1 3).bind fun r625 =>
                    (binary_Represents.f N 1 0 1 0).bind fun r626 =>
                    (binary_Represents.f N 1 0 1073741824 1073741824).bind fun r627 =>
                    some false
                  else
                  (binary_Represents.f N 1 0 1 3).bind fun r628 =>
                  (binary_Represents.f N 1 0 1 0).bind fun r629 =>
                  (binary_Represents.f N 1 0 1073741824 1073741824).bind fun r630 =>
                  some false
                else
                (binary_Represents.f N 1 0 1 3).bind fun r631 =>
                (binary_Represents.f N 1 0 1 0).bind fun r632 =>
                (binary_Represents.f N 1 0 1073741824 1073741824).bind fun r633 =>
                some false
              else
              (binary_Represents.f N 1 0 1 3).bind fun r634 =>
              (binary_Represents.f N 1 0 1 0).bind fun r635 =>
              (binary_Represents.f N 1 0 1073741824 1073741824).bind fun r636 =>
              some false
            else
            (binary_Represents.f N 1 0 1 3).bind fun r637 =>
            (binary_Represents.f N 1 0 1 0).bind fun r638 =>
            (binary_Represents.f N 1 0 1073741824 1073741824).bind fun r639 =>
            some false
          else
          (binary_Represents.f N 1 0 1 3).bind fun r640 =>
          (binary_Represents.f N 1 0 1 0).bind fun r641 =>
          (binary_Represents.f N 1 0 1073741824 1073741824).bind fun r642 =>
          some false
        else
        (binary_Represents.f N 1 0 1 3).bind fun r643 =>
        (binary_Represents.f N 1 0 1 0).bind fun r644 =>
        (binary_Represents.f N 1 0 1073741824 1073741824).bind fun r645 =>
        some false
      else
      (binary_Proper.f N 2 1 3 2 (-1) 3).bind fun r646 =>
      (binary_Act.f N 1 0 1 2 1 1 1).bind fun r647 =>
      (binary_Act.f N 1 0 1 4611686018427387904 0 0 4611686018427387904).bind fun r648 =>
      (binary_Act.f N 1 0 1 32768 32768 0 1).bind fun r649 =>
      bif r649.2.2.2 != 3 then
        some false
      else
      (binary_Check.f N 1 (-1073741825) 1).bind fun r650 =>
      bif r650 != 3 then
        some false
      else
      (binary_Disc.f N 0 (-1073741825) 0).bind fun r651 =>
      bif r651 != 0 then
        some false
      else
      bif !r646.1 then
        bif r646.2 == 0 then
          bif r647.2.2.2 == 0 then
            bif (r647.1 == 5) && ((r647.2.1 == 6) && (r647.2.2.1 == 2)) then
              bif r648.2.2.2 == 3 then
                (binary_Content.f N 4 6 8).bind fun r652 =>
                bif r652 == 2 then
                  (binary_Disc.f N 1 1 1).bind fun r653 =>
                  bif r653 == (-3) then
                    (binary_Disc.f N 0 (-9223372036854775808) 0).bind fun r654 =>
                    bif r654 == 0 then
                      (binary_Content.f N 0 (-9223372036854775808) 0).bind fun r655 =>
                      (binary_Represents.f N 1 0 1 3).bind fun r656 =>
                      (binary_Represents.f N 1 0 1 0).bind fun r657 =>
                      (binary_Represents.f N 1 0 1073741824 1073741824).bind fun r658 =>
                      some false
                    else
                    (binary_Represents.f N 1 0 1 3).bind fun r659 =>
                    (binary_Represents.f N 1 0 1 0).bind fun r660 =>
                    (binary_Represents.f N 1 0 1073741824 1073741824).bind fun r661 =>
                    some false
                  else
                  (binary_Represents.f N 1 0 1 3).bind fun r662 =>
                  (binary_Represents.f N 1 0 1 0).bind fun r663 =>
                  (binary_Represents.f N 1 0 1073741824 1073741824).bind fun r664 =>
                  some false
                else
                (binary_Represents.f N 1 0 1 3).bind fun r665 =>
                (binary_Represents.f N 1 0 1 0).bind fun r666 =>
                (binary_Represents.f N 1 0 1073741824 1073741824).bind fun r667 =>
                some false
              else
              (binary_Represents.f N 1 0 1 3).bind fun r668 =>
              (binary_Represents.f N 1 0 1 0).bind fun r669 =>
              (binary_Represents.f N 1 0 1073741824 1073741824).bind fun r670 =>
              some false
            else
            (binary_Represents.f N 1 0 1 3).bind fun r671 =>
            (binary_Represents.f N 1 0 1 0).bind fun r672 =>
            (binary_Represents.f N 1 0 1073741824 1073741824).bind fun r673 =>
            some false
          else
          (binary_Represents.f N 1 0 1 3).bind fun r674 =>
          (binary_Represents.f N 1 0 1 0).bind fun r675 =>
          (binary_Represents.f N 1 0 1073741824 1073741824).bind fun r676 =>
          some false
        else
        (binary_Represents.f N 1 0 1 3).bind fun r677 =>
        (binary_Represents.f N 1 0 1 0).bind fun r678 =>
        (binary_Represents.f N 1 0 1073741824 1073741824).bind fun r679 =>
        some false
      else
      (binary_Represents.f N 1 0 1 3).bind fun r680 =>
      (binary_Represents.f N 1 0 1 0).bind fun r681 =>
      (binary_Represents.f N 1 0 1073741824 1073741824).bind fun r682 =>
      some false
    else
    (binary_Proper.f N 2 1 3 2 (-1) 3).bind fun r683 =>
    (binary_Act.f N 1 0 1 2 1 1 1).bind fun r684 =>
    (binary_Act.f N 1 0 1 4611686018427387904 0 0 4611686018427387904).bind fun r685 =>
    (binary_Act.f N 1 0 1 32768 32768 0 1).bind fun r686 =>
    bif r686.2.2.2 != 3 then
      some false
    else
    (binary_Check.f N 1 (-1073741825) 1).bind fun r687 =>
    bif r687 != 3 then
      some false
    else
    (binary_Disc.f N 0 (-1073741825) 0).bind fun r688 =>
    bif r688 != 0 then
      some false
    else
    bif !r683.1 then
      bif r683.2 == 0 then
        bif r684.2.2.2 == 0 then
          bif (r684.1 == 5) && ((r684.2.1 == 6) && (r684.2.2.1 == 2)) then
            bif r685.2.2.2 == 3 then
              (binary_Content.f N 4 6 8).bind fun r689 =>
              bif r689 == 2 then
                (binary_Disc.f N 1 1 1).bind fun r690 =>
                bif r690 == (-3) then
                  (binary_Disc.f N 0 (-9223372036854775808) 0).bind fun r691 =>
                  bif r691 == 0 then
                    (binary_Content.f N 0 (-9223372036854775808) 0).bind fun r692 =>
                    (binary_Represents.f N 1 0 1 3).bind fun r693 =>
                    (binary_Represents.f N 1 0 1 0).bind fun r694 =>
                    (binary_Represents.f N 1 0 1073741824 1073741824).bind fun r695 =>
                    some false
                  else
                  (binary_Represents.f N 1 0 1 3).bind fun r696 =>
                  (binary_Represents.f N 1 0 1 0).bind fun r697 =>
                  (binary_Represents.f N 1 0 1073741824 1073741824).bind fun r698 =>
                  some false
                else
                (binary_Represents.f N 1 0 1 3).bind fun r699 =>
                (binary_Represents.f N 1 0 1 0).bind fun r700 =>
                (binary_Represents.f N 1 0 1073741824 1073741824).bind fun r701 =>
                some false
              else
              (binary_Represents.f N 1 0 1 3).bind fun r702 =>
              (binary_Represents.f N 1 0 1 0).bind fun r703 =>
              (binary_Represents.f N 1 0 1073741824 1073741824).bind fun r704 =>
              some false
            else
            (binary_Represents.f N 1 0 1 3).bind fun r705 =>
            (binary_Represents.f N 1 0 1 0).bind fun r706 =>
            (binary_Represents.f N 1 0 1073741824 1073741824).bind fun r707 =>
            some false
          else
          (binary_Represents.f N 1 0 1 3).bind fun r708 =>
          (binary_Represents.f N 1 0 1 0).bind fun r709 =>
          (binary_Represents.f N 1 0 1073741824 1073741824).bind fun r710 =>
          some false
        else
        (binary_Represents.f N 1 0 1 3).bind fun r711 =>
        (binary_Represents.f N 1 0 1 0).bind fun r712 =>
        (binary_Represents.f N 1 0 1073741824 1073741824).bind fun r713 =>
        some false
      else
      (binary_Represents.f N 1 0 1 3).bind fun r714 =>
      (binary_Represents.f N 1 0 1 0).bind fun r715 =>
      (binary_Represents.f N 1 0 1073741824 1073741824).bind fun r716 =>
      some false
    else
    (binary_Represents.f N 1 0 1 3).bind fun r717 =>
    (binary_Represents.f N 1 0 1 0).bind fun r718 =>
    (binary_Represents.f N 1 0 1073741824 1073741824).bind fun r719 =>
    some false
  else
  (binary_Proper.f N 2 1 3 2 (-1) 3).bind fun r720 =>
  (binary_Act.f N 1 0 1 2 1 1 1).bind fun r721 =>
  (binary_Act.f N 1 0 1 4611686018427387904 0 0 4611686018427387904).bind fun r722 =>
  (binary_Act.f N 1 0 1 32768 32768 0 1).bind fun r723 =>
  bif r723.2.2.2 != 3 then
    some false
  else
  (binary_Check.f N 1 (-1073741825) 1).bind fun r724 =>
  bif r724 != 3 then
    some false
  else
  (binary_Disc.f N 0 (-1073741825) 0).bind fun r725 =>
  bif r725 != 0 then
    some false
  else
  bif !r720.1 then
    bif r720.2 == 0 then
      bif r721.2.2.2 == 0 then
        bif (r721.1 == 5) && ((r721.2.1 == 6) && (r721.2.2.1 == 2)) then
          bif r722.2.2.2 == 3 then
            (binary_Content.f N 4 6 8).bind fun r726 =>
            bif r726 == 2 then
              (binary_Disc.f N 1 1 1).bind fun r727 =>
              bif r727 == (-3) then
                (binary_Disc.f N 0 (-9223372036854775808) 0).bind fun r728 =>
                bif r728 == 0 then
                  (binary_Content.f N 0 (-9223372036854775808) 0).bind fun r729 =>
                  (binary_Represents.f N 1 0 1 3).bind fun r730 =>
                  (binary_Represents.f N 1 0 1 0).bind fun r731 =>
                  (binary_Represents.f N 1 0 1073741824 1073741824).bind fun r732 =>
                  some false
                else
                (binary_Represents.f N 1 0 1 3).bind fun r733 =>
                (binary_Represents.f N 1 0 1 0).bind fun r734 =>
                (binary_Represents.f N 1 0 1073741824 1073741824).bind fun r735 =>
                some false
              else
              (binary_Represents.f N 1 0 1 3).bind fun r736 =>
              (binary_Represents.f N 1 0 1 0).bind fun r737 =>
              (binary_Represents.f N 1 0 1073741824 1073741824).bind fun r738 =>
              some false
            else
            (binary_Represents.f N 1 0 1 3).bind fun r739 =>
            (binary_Represents.f N 1 0 1 0).bind fun r740 =>
            (binary_Represents.f N 1 0 1073741824 1073741824).bind fun r741 =>
            some false
          else
          (binary_Represents.f N 1 0 1 3).bind fun r742 =>
          (binary_Represents.f N 1 0 1 0).bind fun r743 =>
          (binary_Represents.f N 1 0 1073741824 1073741824).bind fun r744 =>
          some false
        else
        (binary_Represents.f N 1 0 1 3).bind fun r745 =>
        (binary_Represents.f N 1 0 1 0).bind fun r746 =>
        (binary_Represents.f N 1 0 1073741824 1073741824).bind fun r747 =>
        some false
      else
      (binary_Represents.f N 1 0 1 3).bind fun r748 =>
      (binary_Represents.f N 1 0 1 0).bind fun r749 =>
      (binary_Represents.f N 1 0 1073741824 1073741824).bind fun r750 =>
      some false
    else
    (binary_Represents.f N 1 0 1 3).bind fun r751 =>
    (binary_Represents.f N 1 0 1 0).bind fun r752 =>
    (binary_Represents.f N 1 0 1073741824 1073741824).bind fun r753 =>
    some false
  else
  (binary_Represents.f N 1 0 1 3).bind fun r754 =>
  (binary_Represents.f N 1 0 1 0).bind fun r755 =>
  (binary_Represents.f N 1 0 1073741824 1073741824).bind fun r756 =>
  some false
noncomputable def parquetlaw08_BinaryKnown.body : Code := (Try.f10.body).getD .skip
noncomputable def parquetlaw08_BinaryKnown.ty : List (Nat × TI) := [(2, ty2), (23, ty23), (33, ty33)]
noncomputable def parquetlaw08_BinaryKnown.E (N : Nat) : Env := { ty := lookN parquetlaw08_BinaryKnown.ty, tab := lookN [(19, binary_Check.ent N), (20, binary_Reduce.ent N), (14, binary_Proper.ent N), (16, binary_Act.ent N), (22, binary_Disc.ent N), (25, binary_Content.ent N), (11, binary_Represents.ent N), (13, parquetlaw08_wakes.ent N)], hint := lookN [], cut := lookN [], N := N, res := [.tmp 0], rsh := [.any], nb := 0, ntmps := 203, own := false }
noncomputable def parquetlaw08_BinaryKnown.dec (v : V) (bs : List Blk) : Option (Bool) := match v, bs with
  | .c (.bool z0), [] => some z0
  | _, _ => none
set_option maxRecDepth 100000 in
theorem parquetlaw08_BinaryKnown.f_eq (N : Nat) :
    evFun (parquetlaw08_BinaryKnown.E N) parquetlaw08_BinaryKnown.body [] [] parquetlaw08_BinaryKnown.dec = parquetlaw08_BinaryKnown.f N := by kernel_rfl
noncomputable def parquetlaw08_BinaryKnown.ent (N : Nat) : Entry := { A := Bool, fresh := 0, imm := [], dec := fun args bs => match freezeL 0 (fun _ => .dead) [] args, bs with
  | some [], [] => some (parquetlaw08_BinaryKnown.f N, fun r => .one (.c (.bool r)) [])
  | _, _ => none }
theorem parquetlaw08_BinaryKnown.env (N : Nat) : EnvOK Try.prog (parquetlaw08_BinaryKnown.E N) := ⟨(TyOK.cons ty2_ok (TyOK.cons ty23_ok (TyOK.cons ty33_ok TyOK.nil))), (TabOK.cons (binary_Check.ent_ok N) (TabOK.cons (binary_Reduce.ent_ok N) (TabOK.cons (binary_Proper.ent_ok N) (TabOK.cons (binary_Act.ent_ok N) (TabOK.cons (binary_Disc.ent_ok N) (TabOK.cons (binary_Content.ent_ok N) (TabOK.cons (binary_Represents.ent_ok N) (TabOK.cons (parquetlaw08_wakes.ent_ok N) TabOK.nil))))))))⟩
theorem parquetlaw08_BinaryKnown.res_eq (N : Nat) : (parquetlaw08_BinaryKnown.E N).res = Try.f10.results.toList := by kernel_rfl
theorem parquetlaw08_BinaryKnown.spec (N : Nat) (r : Bool) (h : parquetlaw08_BinaryKnown.f N = some r) : FnSpec Try.prog 10 [] [] (.c (.bool r)) ([]) := by
  rw [← parquetlaw08_BinaryKnown.f_eq] at h
  obtain ⟨v, bs', h1, h2⟩ := evFun_ok (parquetlaw08_BinaryKnown.env N) Try_mixed Try.func10 (by kernel_rfl : Try.f10.body = some parquetlaw08_BinaryKnown.body) (by kernel_rfl) (parquetlaw08_BinaryKnown.res_eq N) (by kernel_rfl) (by kernel_rfl) (Nat.le_of_ble_eq_true (by kernel_rfl)) (AllCut.of (l := []) (by kernel_rfl) AllCut.nil) h
  unfold parquetlaw08_BinaryKnown.dec at h1; split at h1
  · cases h1; exact h2
  · cases h1
theorem parquetlaw08_BinaryKnown.ent_ok (N : Nat) : TabOK1 Try.prog 10 (parquetlaw08_BinaryKnown.ent N) := by
  intro args bs a enc h
  simp only [parquetlaw08_BinaryKnown.ent] at h
  split at h
  · rename_i hz; have h0 := Option.some.inj h; have h1 := congrArg Prod.fst h0; have h2 := congrArg Prod.snd h0; dsimp only at h1 h2; subst h2; exact FnSpec.of_freeze hz (parquetlaw08_BinaryKnown.spec N a h1)
  · cases h
end Go.Proofs.Ytckddgepjhclpaa
