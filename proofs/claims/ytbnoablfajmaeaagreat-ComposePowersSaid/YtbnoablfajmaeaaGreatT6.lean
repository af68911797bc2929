-- The seat's functions as the evaluator goes through them: typed models and their laws.
import Derived.Test.YtbnoablfajmaeaaGreatProg
import Derived.Test.YtbnoablfajmaeaaGreatEvF
import Derived.Test.YtbnoablfajmaeaaGreatT5
import Derived.KernelRfl
namespace Go.Proofs.YtbnoablfajmaeaaGreat
open Go.Proofs.YtbnoablfajmaeaaGreat.Ev
set_option linter.unusedVariables false
open Go

noncomputable def ty43 : TI := ⟨.int .u64, 1, 8, [.int .u64 0]⟩
theorem ty43_ok : TyOK1 Tryz.prog 43 ty43 := tyok_of (by kernel_rfl) (by kernel_rfl) (by kernel_rfl) (by kernel_rfl) (by kernel_rfl) (by kernel_rfl) (by kernel_rfl) (Tryz.underlying43) (by kernel_rfl)
/-! math/bits.Len64: function 106 -/
noncomputable def bits_Len64.f (N : Nat) (a1 : Int) : Option (Int) :=
  bif decide (a1 ≥ 4294967296) then
    bif decide ((Int.fdiv a1 (2 ^ 32)) ≥ 65536) then
      bif decide ((Int.fdiv (Int.fdiv a1 (2 ^ 32)) (2 ^ 16)) ≥ 256) then
        bif (decide (0 ≤ (wu8 (Int.fdiv (Int.fdiv (Int.fdiv a1 (2 ^ 32)) (2 ^ 16)) (2 ^ 8))))) && (decide ((wu8 (Int.fdiv (Int.fdiv (Int.fdiv a1 (2 ^ 32)) (2 ^ 16)) (2 ^ 8))) < (str0.size : Int))) then
          some (wi64 (56 + (wi64 (byteAt str0 ((wu8 (Int.fdiv (Int.fdiv (Int.fdiv a1 (2 ^ 32)) (2 ^ 16)) (2 ^ 8))).toNat)))))
        else none
      else
      bif (decide (0 ≤ (wu8 (Int.fdiv (Int.fdiv a1 (2 ^ 32)) (2 ^ 16))))) && (decide ((wu8 (Int.fdiv (Int.fdiv a1 (2 ^ 32)) (2 ^ 16))) < (str0.size : Int))) then
        some (wi64 (48 + (wi64 (byteAt str0 ((wu8 (Int.fdiv (Int.fdiv a1 (2 ^ 32)) (2 ^ 16))).toNat)))))
      else none
    else
    bif decide ((Int.fdiv a1 (2 ^ 32)) ≥ 256) then
      bif (decide (0 ≤ (wu8 (Int.fdiv (Int.fdiv a1 (2 ^ 32)) (2 ^ 8))))) && (decide ((wu8 (Int.fdiv (Int.fdiv a1 (2 ^ 32)) (2 ^ 8))) < (str0.size : Int))) then
        some (wi64 (40 + (wi64 (byteAt str0 ((wu8 (Int.fdiv (Int.fdiv a1 (2 ^ 32)) (2 ^ 8))).toNat)))))
      else none
    else
    bif (decide (0 ≤ (wu8 (Int.fdiv a1 (2 ^ 32))))) && (decide ((wu8 (Int.fdiv a1 (2 ^ 32))) < (str0.size : Int))) then
      some (wi64 (32 + (wi64 (byteAt str0 ((wu8 (Int.fdiv a1 (2 ^ 32))).toNat)))))
    else none
  else
  bif decide (a1 ≥ 65536) then
    bif decide ((Int.fdiv a1 (2 ^ 16)) ≥ 256) then
      bif (decide (0 ≤ (wu8 (Int.fdiv (Int.fdiv a1 (2 ^ 16)) (2 ^ 8))))) && (decide ((wu8 (Int.fdiv (Int.fdiv a1 (2 ^ 16)) (2 ^ 8))) < (str0.size : Int))) then
        some (wi64 (24 + (wi64 (byteAt str0 ((wu8 (Int.fdiv (Int.fdiv a1 (2 ^ 16)) (2 ^ 8))).toNat)))))
      else none
    else
    bif (decide (0 ≤ (wu8 (Int.fdiv a1 (2 ^ 16))))) && (decide ((wu8 (Int.fdiv a1 (2 ^ 16))) < (str0.size : Int))) then
      some (wi64 (16 + (wi64 (byteAt str0 ((wu8 (Int.fdiv a1 (2 ^ 16))).toNat)))))
    else none
  else
  bif decide (a1 ≥ 256) then
    bif (decide (0 ≤ (wu8 (Int.fdiv a1 (2 ^ 8))))) && (decide ((wu8 (Int.fdiv a1 (2 ^ 8))) < (str0.size : Int))) then
      some (wi64 (8 + (wi64 (byteAt str0 ((wu8 (Int.fdiv a1 (2 ^ 8))).toNat)))))
    else none
  else
  bif (decide (0 ≤ (wu8 a1))) && (decide ((wu8 a1) < (str0.size : Int))) then
    some (wi64 (0 + (wi64 (byteAt str0 ((wu8 a1).toNat)))))
  else none
noncomputable def bits_Len64.body : Code := (Tryz.f106.body).getD .skip
noncomputable def bits_Len64.ty : List (Nat × TI) := [(3, ty3), (5, ty5), (9, ty9), (41, ty41)]
noncomputable def bits_Len64.E (N : Nat) : Env := { ty := lookN bits_Len64.ty, tab := lookN [], hint := lookN [], cut := lookN [], N := N, res := [.tmp 2], rsh := [.any], nb := 0, ntmps := 25, own := false }
noncomputable def bits_Len64.dec (v : V) (bs : List Blk) : Option (Int) := match v, bs with
  | .c (.int .i64 z0), [] => some z0
  | _, _ => none
set_option maxRecDepth 100000 in
theorem bits_Len64.f_eq (N : Nat) (a1 : Int) :
    evFun (bits_Len64.E N) bits_Len64.body [.c (.int .u64 a1)] [] bits_Len64.dec = bits_Len64.f N a1 := by kernel_rfl
noncomputable def bits_Len64.ent (N : Nat) : Entry := { A := Int, fresh := 0, imm := [true], dec := fun args bs => match freezeL 0 (fun _ => .dead) [.any] args, bs with
  | some [.c (.int .u64 a1)], [] => some (bits_Len64.f N a1, fun r => .one (.c (.int .i64 r)) [])
  | _, _ => none }
theorem bits_Len64.env (N : Nat) : EnvOK Tryz.prog (bits_Len64.E N) := ⟨(TyOK.cons ty3_ok (TyOK.cons ty5_ok (TyOK.cons ty9_ok (TyOK.cons ty41_ok TyOK.nil)))), TabOK.nil⟩
theorem bits_Len64.res_eq (N : Nat) : (bits_Len64.E N).res = Tryz.f106.results.toList := by kernel_rfl
theorem bits_Len64.spec (N : Nat) (a1 : Int) (r : Int) (h : bits_Len64.f N a1 = some r) : FnSpec Tryz.prog 106 [.c (.int .u64 a1)] [] (.c (.int .i64 r)) ([]) := by
  rw [← bits_Len64.f_eq] at h
  obtain ⟨v, bs', h1, h2⟩ := evFun_ok (bits_Len64.env N) Tryz_mixed Tryz.func106 (by kernel_rfl : Tryz.f106.body = some bits_Len64.body) (by kernel_rfl) (bits_Len64.res_eq N) (by kernel_rfl) (by kernel_rfl) (Nat.le_of_ble_eq_true (by kernel_rfl)) (AllCut.of (l := []) (by kernel_rfl) AllCut.nil) h
  unfold bits_Len64.dec at h1; split at h1
  · cases h1; exact h2
  · cases h1
theorem bits_Len64.ent_ok (N : Nat) : TabOK1 Tryz.prog 106 (bits_Len64.ent N) := by
  intro args bs a enc h
  simp only [bits_Len64.ent] at h
  split at h
  · rename_i hz; have h0 := Option.some.inj h; have h1 := congrArg Prod.fst h0; have h2 := congrArg Prod.snd h0; dsimp only at h1 h2; subst h2; exact FnSpec.of_freeze hz (bits_Len64.spec N _ a h1)
  · cases h
/-! math/bits.LeadingZeros64: function 98 -/
noncomputable def bits_LeadingZeros64.f (N : Nat) (a1 : Int) : Option (Int) :=
  (bits_Len64.f N a1).bind fun r2 =>
  some (wi64 (64 - r2))
noncomputable def bits_LeadingZeros64.body : Code := (Tryz.f98.body).getD .skip
noncomputable def bits_LeadingZeros64.ty : List (Nat × TI) := []
noncomputable def bits_LeadingZeros64.E (N : Nat) : Env := { ty := lookN bits_LeadingZeros64.ty, tab := lookN [(106, bits_Len64.ent N)], hint := lookN [], cut := lookN [], N := N, res := [.tmp 2], rsh := [.any], nb := 0, ntmps := 6, own := false }
noncomputable def bits_LeadingZeros64.dec (v : V) (bs : List Blk) : Option (Int) := match v, bs with
  | .c (.int .i64 z0), [] => some z0
  | _, _ => none
set_option maxRecDepth 100000 in
theorem bits_LeadingZeros64.f_eq (N : Nat) (a1 : Int) :
    evFun (bits_LeadingZeros64.E N) bits_LeadingZeros64.body [.c (.int .u64 a1)] [] bits_LeadingZeros64.dec = bits_LeadingZeros64.f N a1 := by kernel_rfl
noncomputable def bits_LeadingZeros64.ent (N : Nat) : Entry := { A := Int, fresh := 0, imm := [true], dec := fun args bs => match freezeL 0 (fun _ => .dead) [.any] args, bs with
  | some [.c (.int .u64 a1)], [] => some (bits_LeadingZeros64.f N a1, fun r => .one (.c (.int .i64 r)) [])
  | _, _ => none }
theorem bits_LeadingZeros64.env (N : Nat) : EnvOK Tryz.prog (bits_LeadingZeros64.E N) := ⟨TyOK.nil, (TabOK.cons (bits_Len64.ent_ok N) TabOK.nil)⟩
theorem bits_LeadingZeros64.res_eq (N : Nat) : (bits_LeadingZeros64.E N).res = Tryz.f98.results.toList := by kernel_rfl
theorem bits_LeadingZeros64.spec (N : Nat) (a1 : Int) (r : Int) (h : bits_LeadingZeros64.f N a1 = some r) : FnSpec Tryz.prog 98 [.c (.int .u64 a1)] [] (.c (.int .i64 r)) ([]) := by
  rw [← bits_LeadingZeros64.f_eq] at h
  obtain ⟨v, bs', h1, h2⟩ := evFun_ok (bits_LeadingZeros64.env N) Tryz_mixed Tryz.func98 (by kernel_rfl : Tryz.f98.body = some bits_LeadingZeros64.body) (by kernel_rfl) (bits_LeadingZeros64.res_eq N) (by kernel_rfl) (by kernel_rfl) (Nat.le_of_ble_eq_true (by kernel_rfl)) (AllCut.of (l := []) (by kernel_rfl) AllCut.nil) h
  unfold bits_LeadingZeros64.dec at h1; split at h1
  · cases h1; exact h2
  · cases h1
theorem bits_LeadingZeros64.ent_ok (N : Nat) : TabOK1 Tryz.prog 98 (bits_LeadingZeros64.ent N) := by
  intro args bs a enc h
  simp only [bits_LeadingZeros64.ent] at h
  split at h
  · rename_i hz; have h0 := Option.some.inj h; have h1 := congrArg Prod.fst h0; have h2 := congrArg Prod.snd h0; dsimp only at h1 h2; subst h2; exact FnSpec.of_freeze hz (bits_LeadingZeros64.spec N _ a h1)
  · cases h
/-! math/bits.Mul64: function 90 -/
noncomputable def bits_Mul64.f (N : Nat) (a1 : Int) (a2 : Int) : Option (Int × Int) :=
  some (wu64 ((wu64 ((wu64 ((Int.fdiv a1 (2 ^ 32)) * (Int.fdiv a2 (2 ^ 32)))) + (Int.fdiv (wu64 ((wu64 ((Int.fdiv a1 (2 ^ 32)) * (bit_and .u64 a2 4294967295))) + (Int.fdiv (wu64 ((bit_and .u64 a1 4294967295) * (bit_and .u64 a2 4294967295))) (2 ^ 32)))) (2 ^ 32)))) + (Int.fdiv (wu64 ((bit_and .u64 (wu64 ((wu64 ((Int.fdiv a1 (2 ^ 32)) * (bit_and .u64 a2 4294967295))) + (Int.fdiv (wu64 ((bit_and .u64 a1 4294967295) * (bit_and .u64 a2 4294967295))) (2 ^ 32)))) 4294967295) + (wu64 ((bit_and .u64 a1 4294967295) * (Int.fdiv a2 (2 ^ 32)))))) (2 ^ 32))), wu64 (a1 * a2))
noncomputable def bits_Mul64.body : Code := (Tryz.f90.body).getD .skip
noncomputable def bits_Mul64.ty : List (Nat × TI) := []
noncomputable def bits_Mul64.E (N : Nat) : Env := { ty := lookN bits_Mul64.ty, tab := lookN [], hint := lookN [], cut := lookN [], N := N, res := [.tmp 4, .tmp 5], rsh := [.any, .any], nb := 0, ntmps := 51, own := false }
noncomputable def bits_Mul64.dec (v : V) (bs : List Blk) : Option (Int × Int) := match v, bs with
  | .tup [.c (.int .u64 z0), .c (.int .u64 z1)], [] => some (z0, z1)
  | _, _ => none
set_option maxRecDepth 100000 in
theorem bits_Mul64.f_eq (N : Nat) (a1 : Int) (a2 : Int) :
    evFun (bits_Mul64.E N) bits_Mul64.body [.c (.int .u64 a1), .c (.int .u64 a2)] [] bits_Mul64.dec = bits_Mul64.f N a1 a2 := by kernel_rfl
noncomputable def bits_Mul64.ent (N : Nat) : Entry := { A := Int × Int, fresh := 0, imm := [true, true], dec := fun args bs => match freezeL 0 (fun _ => .dead) [.any, .any] args, bs with
  | some [.c (.int .u64 a1), .c (.int .u64 a2)], [] => some (bits_Mul64.f N a1 a2, fun r => .one (.tup [.c (.int .u64 r.1), .c (.int .u64 r.2)]) [])
  | _, _ => none }
theorem bits_Mul64.env (N : Nat) : EnvOK Tryz.prog (bits_Mul64.E N) := ⟨TyOK.nil, TabOK.nil⟩
theorem bits_Mul64.res_eq (N : Nat) : (bits_Mul64.E N).res = Tryz.f90.results.toList := by kernel_rfl
theorem bits_Mul64.spec (N : Nat) (a1 : Int) (a2 : Int) (r : Int × Int) (h : bits_Mul64.f N a1 a2 = some r) : FnSpec Tryz.prog 90 [.c (.int .u64 a1), .c (.int .u64 a2)] [] (.tup [.c (.int .u64 r.1), .c (.int .u64 r.2)]) ([]) := by
  rw [← bits_Mul64.f_eq] at h
  obtain ⟨v, bs', h1, h2⟩ := evFun_ok (bits_Mul64.env N) Tryz_mixed Tryz.func90 (by kernel_rfl : Tryz.f90.body = some bits_Mul64.body) (by kernel_rfl) (bits_Mul64.res_eq N) (by kernel_rfl) (by kernel_rfl) (Nat.le_of_ble_eq_true (by kernel_rfl)) (AllCut.of (l := []) (by kernel_rfl) AllCut.nil) h
  unfold bits_Mul64.dec at h1; split at h1
  · cases h1; exact h2
  · cases h1
theorem bits_Mul64.ent_ok (N : Nat) : TabOK1 Tryz.prog 90 (bits_Mul64.ent N) := by
  intro args bs a enc h
  simp only [bits_Mul64.ent] at h
  split at h
  · rename_i hz; have h0 := Option.some.inj h; have h1 := congrArg Prod.fst h0; have h2 := congrArg Prod.snd h0; dsimp only at h1 h2; subst h2; exact FnSpec.of_freeze hz (bits_Mul64.spec N _ _ a h1)
  · cases h
/-! math/bits.Div64: function 91 -/
noncomputable def bits_Div64.l17 {R : Type} (N : Nat) : Nat → Int → Int → Int → Int → Int → Int → Int → Int → Int → (Int → Int → Int → Int → Int → Int → Int → Int → Option R) → Option R
  | 0, _, _, _, _, _, _, _, _, _, _ => none
  | n + 1, x5, x6, x7, x8, x9, x10, x11, x12, x13, k0 =>
    bif decide (x12 ≥ 4294967296) then
      bif decide ((wu64 (x13 + x7)) ≥ 4294967296) then
        k0 x5 x6 x7 x8 x9 x10 x11 (wu64 (x12 - 1))
      else
      bits_Div64.l17 N n x5 x6 x7 x8 x9 x10 x11 (wu64 (x12 - 1)) (wu64 (x13 + x7)) k0
    else
    bif decide ((wu64 (x12 * x8)) > (wu64 ((wu64 (4294967296 * x13)) + x10))) then
      bif decide ((wu64 (x13 + x7)) ≥ 4294967296) then
        k0 x5 x6 x7 x8 x9 x10 x11 (wu64 (x12 - 1))
      else
      bits_Div64.l17 N n x5 x6 x7 x8 x9 x10 x11 (wu64 (x12 - 1)) (wu64 (x13 + x7)) k0
    else
    k0 x5 x6 x7 x8 x9 x10 x11 x12
noncomputable def bits_Div64.l24 {R : Type} (N : Nat) : Nat → Int → Int → Int → Int → Int → Int → Int → Int → Int → (Int → Int → Int → Int → Int → Int → Option R) → Option R
  | 0, _, _, _, _, _, _, _, _, _, _ => none
  | n + 1, x30, x31, x32, x33, x34, x35, x36, x37, x38, k2 =>
    bif decide (x38 ≥ 4294967296) then
      bif decide ((wu64 (x36 + x32)) ≥ 4294967296) then
        k2 x30 x31 x34 x35 x37 (wu64 (x38 - 1))
      else
      bits_Div64.l24 N n x30 x31 x32 x33 x34 x35 (wu64 (x36 + x32)) x37 (wu64 (x38 - 1)) k2
    else
    bif decide ((wu64 (x38 * x33)) > (wu64 ((wu64 (4294967296 * x36)) + x34))) then
      bif decide ((wu64 (x36 + x32)) ≥ 4294967296) then
        k2 x30 x31 x34 x35 x37 (wu64 (x38 - 1))
      else
      bits_Div64.l24 N n x30 x31 x32 x33 x34 x35 (wu64 (x36 + x32)) x37 (wu64 (x38 - 1)) k2
    else
    k2 x30 x31 x34 x35 x37 x38
noncomputable def bits_Div64.f (N : Nat) (a1 : Int) (a2 : Int) (a3 : Int) : Option (Int × Int) :=
  bif a3 == 0 then none else
  bif decide (a3 ≤ a1) then none else
  bif a1 == 0 then
    bif !(a3 == 0) then
      bif !(a3 == 0) then
        some (wu64 (Int.tdiv a2 a3), Int.tmod a2 a3)
      else none
    else none
  else
  (bits_LeadingZeros64.f N a3).bind fun r4 =>
  bif decide (0 ≤ (wu64 r4)) then
    bif decide (0 ≤ (wu64 r4)) then
      bif decide (0 ≤ (wu64 (64 - (wu64 r4)))) then
        bif decide (0 ≤ (wu64 r4)) then
          bif !((Int.fdiv (wu64 (a3 * 2 ^ (min (wu64 r4).toNat 64))) (2 ^ 32)) == 0) then
            bits_Div64.l17 N N (wu64 (a3 * 2 ^ (min (wu64 r4).toNat 64))) (wu64 r4) (Int.fdiv (wu64 (a3 * 2 ^ (min (wu64 r4).toNat 64))) (2 ^ 32)) (bit_and .u64 (wu64 (a3 * 2 ^ (min (wu64 r4).toNat 64))) 4294967295) (bit_or .u64 (wu64 (a1 * 2 ^ (min (wu64 r4).toNat 64))) (Int.fdiv a2 (2 ^ (min (wu64 (64 - (wu64 r4))).toNat 64)))) (Int.fdiv (wu64 (a2 * 2 ^ (min (wu64 r4).toNat 64))) (2 ^ 32)) (bit_and .u64 (wu64 (a2 * 2 ^ (min (wu64 r4).toNat 64))) 4294967295) (wu64 (Int.tdiv (bit_or .u64 (wu64 (a1 * 2 ^ (min (wu64 r4).toNat 64))) (Int.fdiv a2 (2 ^ (min (wu64 (64 - (wu64 r4))).toNat 64)))) (Int.fdiv (wu64 (a3 * 2 ^ (min (wu64 r4).toNat 64))) (2 ^ 32)))) (wu64 ((bit_or .u64 (wu64 (a1 * 2 ^ (min (wu64 r4).toNat 64))) (Int.fdiv a2 (2 ^ (min (wu64 (64 - (wu64 r4))).toNat 64)))) - (wu64 ((wu64 (Int.tdiv (bit_or .u64 (wu64 (a1 * 2 ^ (min (wu64 r4).toNat 64))) (Int.fdiv a2 (2 ^ (min (wu64 (64 - (wu64 r4))).toNat 64)))) (Int.fdiv (wu64 (a3 * 2 ^ (min (wu64 r4).toNat 64))) (2 ^ 32)))) * (Int.fdiv (wu64 (a3 * 2 ^ (min (wu64 r4).toNat 64))) (2 ^ 32))))))
              (fun y22 y23 y24 y25 y26 y27 y28 y29 =>
                bif !(y24 == 0) then
                  bits_Div64.l24 N N y22 y23 y24 y25 y28 y29 (wu64 ((wu64 ((wu64 ((wu64 (y26 * 4294967296)) + y27)) - (wu64 (y29 * y22)))) - (wu64 ((wu64 (Int.tdiv (wu64 ((wu64 ((wu64 (y26 * 4294967296)) + y27)) - (wu64 (y29 * y22)))) y24)) * y24)))) (wu64 ((wu64 ((wu64 (y26 * 4294967296)) + y27)) - (wu64 (y29 * y22)))) (wu64 (Int.tdiv (wu64 ((wu64 ((wu64 (y26 * 4294967296)) + y27)) - (wu64 (y29 * y22)))) y24))
                    (fun y45 y46 y47 y48 y49 y50 =>
                      bif decide (0 ≤ y46) then
                        some (wu64 ((wu64 (y48 * 4294967296)) + y50), Int.fdiv (wu64 ((wu64 ((wu64 (y49 * 4294967296)) + y47)) - (wu64 (y50 * y45)))) (2 ^ (min y46.toNat 64)))
                      else none)
                else none)
          else none
        else none
      else none
    else none
  else none
noncomputable def bits_Div64.body : Code := (Tryz.f91.body).getD .skip
noncomputable def bits_Div64.ty : List (Nat × TI) := [(3, ty3), (43, ty43)]
noncomputable def bits_Div64.h17 : Hint := ⟨[(2, .any), (8, .any), (9, .any), (10, .any), (11, .any), (13, .any), (14, .any), (15, .any), (16, .any)], [(2, .any), (8, .any), (9, .any), (10, .any), (11, .any), (13, .any), (14, .any), (15, .any)]⟩
noncomputable def bits_Div64.h24 : Hint := ⟨[(2, .any), (8, .any), (9, .any), (10, .any), (14, .any), (15, .any), (16, .any), (17, .any), (18, .any)], [(2, .any), (8, .any), (14, .any), (15, .any), (17, .any), (18, .any)]⟩
noncomputable def bits_Div64.c17 (N : Nat) : Cut := ⟨fun vs H k => match vs, H with
  | [.c (.int .u64 x5), .c (.int .u64 x6), .c (.int .u64 x7), .c (.int .u64 x8), .c (.int .u64 x9), .c (.int .u64 x10), .c (.int .u64 x11), .c (.int .u64 x12), .c (.int .u64 x13)], [] => bits_Div64.l17 N N x5 x6 x7 x8 x9 x10 x11 x12 x13 (fun x14 x15 x16 x17 x18 x19 x20 x21 => k (.exit 0) ⟨mkT bits_Div64.h17.out [.c (.int .u64 x14), .c (.int .u64 x15), .c (.int .u64 x16), .c (.int .u64 x17), .c (.int .u64 x18), .c (.int .u64 x19), .c (.int .u64 x20), .c (.int .u64 x21)], []⟩)
  | _, _ => none⟩
noncomputable def bits_Div64.c24 (N : Nat) : Cut := ⟨fun vs H k => match vs, H with
  | [.c (.int .u64 x30), .c (.int .u64 x31), .c (.int .u64 x32), .c (.int .u64 x33), .c (.int .u64 x34), .c (.int .u64 x35), .c (.int .u64 x36), .c (.int .u64 x37), .c (.int .u64 x38)], [] => bits_Div64.l24 N N x30 x31 x32 x33 x34 x35 x36 x37 x38 (fun x39 x40 x41 x42 x43 x44 => k (.exit 2) ⟨mkT bits_Div64.h24.out [.c (.int .u64 x39), .c (.int .u64 x40), .c (.int .u64 x41), .c (.int .u64 x42), .c (.int .u64 x43), .c (.int .u64 x44)], []⟩)
  | _, _ => none⟩
noncomputable def bits_Div64.E (N : Nat) : Env := { ty := lookN bits_Div64.ty, tab := lookN [(98, bits_LeadingZeros64.ent N)], hint := lookN [(17, bits_Div64.h17), (24, bits_Div64.h24)], cut := lookN [(17, bits_Div64.c17 N), (24, bits_Div64.c24 N)], N := N, res := [.tmp 6, .tmp 7], rsh := [.any, .any], nb := 0, ntmps := 135, own := false }
noncomputable def bits_Div64.b17 : Code := inner ((subLoops bits_Div64.body).getD 0 .skip)
set_option maxRecDepth 100000 in
theorem bits_Div64.l17_eq {R : Type} (N n : Nat) (x5 : Int) (x6 : Int) (x7 : Int) (x8 : Int) (x9 : Int) (x10 : Int) (x11 : Int) (x12 : Int) (x13 : Int) (k : Ex → St → Option R) :
    evLoop 0 bits_Div64.h17 (fun s k => evCode (bits_Div64.E N) 383 bits_Div64.b17 s k) n [.c (.int .u64 x5), .c (.int .u64 x6), .c (.int .u64 x7), .c (.int .u64 x8), .c (.int .u64 x9), .c (.int .u64 x10), .c (.int .u64 x11), .c (.int .u64 x12), .c (.int .u64 x13)] [] k = bits_Div64.l17 N n x5 x6 x7 x8 x9 x10 x11 x12 x13 (fun x14 x15 x16 x17 x18 x19 x20 x21 => k (.exit 0) ⟨mkT bits_Div64.h17.out [.c (.int .u64 x14), .c (.int .u64 x15), .c (.int .u64 x16), .c (.int .u64 x17), .c (.int .u64 x18), .c (.int .u64 x19), .c (.int .u64 x20), .c (.int .u64 x21)], []⟩) := by
  induction n generalizing x5 x6 x7 x8 x9 x10 x11 x12 x13 with
  | zero => kernel_rfl
  | succ n ih =>
    simp only [bits_Div64.l17, ← ih]
    kernel_rfl
noncomputable def bits_Div64.b24 : Code := inner ((subLoops bits_Div64.body).getD 1 .skip)
set_option maxRecDepth 100000 in
theorem bits_Div64.l24_eq {R : Type} (N n : Nat) (x30 : Int) (x31 : Int) (x32 : Int) (x33 : Int) (x34 : Int) (x35 : Int) (x36 : Int) (x37 : Int) (x38 : Int) (k : Ex → St → Option R) :
    evLoop 0 bits_Div64.h24 (fun s k => evCode (bits_Div64.E N) 379 bits_Div64.b24 s k) n [.c (.int .u64 x30), .c (.int .u64 x31), .c (.int .u64 x32), .c (.int .u64 x33), .c (.int .u64 x34), .c (.int .u64 x35), .c (.int .u64 x36), .c (.int .u64 x37), .c (.int .u64 x38)] [] k = bits_Div64.l24 N n x30 x31 x32 x33 x34 x35 x36 x37 x38 (fun x39 x40 x41 x42 x43 x44 => k (.exit 2) ⟨mkT bits_Div64.h24.out [.c (.int .u64 x39), .c (.int .u64 x40), .c (.int .u64 x41), .c (.int .u64 x42), .c (.int .u64 x43), .c (.int .u64 x44)], []⟩) := by
  induction n generalizing x30 x31 x32 x33 x34 x35 x36 x37 x38 with
  | zero => kernel_rfl
  | succ n ih =>
    simp only [bits_Div64.l24, ← ih]
    kernel_rfl
noncomputable def bits_Div64.dec (v : V) (bs : List Blk) : Option (Int × Int) := match v, bs with
  | .tup [.c (.int .u64 z0), .c (.int .u64 z1)], [] => some (z0, z1)
  | _, _ => none
set_option maxRecDepth 100000 in
theorem bits_Div64.f_eq (N : Nat) (a1 : Int) (a2 : Int) (a3 : Int) :
    evFun (bits_Div64.E N) bits_Div64.body [.c (.int .u64 a1), .c (.int .u64 a2), .c (.int .u64 a3)] [] bits_Div64.dec = bits_Div64.f N a1 a2 a3 := by kernel_rfl
noncomputable def bits_Div64.ent (N : Nat) : Entry := { A := Int × Int, fresh := 0, imm := [true, true, true], dec := fun args bs => match freezeL 0 (fun _ => .dead) [.any, .any, .any] args, bs with
  | some [.c (.int .u64 a1), .c (.int .u64 a2), .c (.int .u64 a3)], [] => some (bits_Div64.f N a1 a2 a3, fun r => .one (.tup [.c (.int .u64 r.1), .c (.int .u64 r.2)]) [])
  | _, _ => none }
theorem bits_Div64.env (N : Nat) : EnvOK Tryz.prog (bits_Div64.E N) := ⟨(TyOK.cons ty3_ok (TyOK.cons ty43_ok TyOK.nil)), (TabOK.cons (bits_LeadingZeros64.ent_ok N) TabOK.nil)⟩
theorem bits_Div64.res_eq (N : Nat) : (bits_Div64.E N).res = Tryz.f91.results.toList := by kernel_rfl
theorem bits_Div64.k24 (N : Nat) : CutOK Tryz.prog Tryz.f91 (bits_Div64.E N) (.loop bits_Div64.b24) := by
  intro e hd he hh R vs H k r h
  have e1 : (bits_Div64.E N).cut (loopKey bits_Div64.b24) = some (bits_Div64.c24 N) := by kernel_rfl
  have e2 : (bits_Div64.E N).hint (loopKey bits_Div64.b24) = some bits_Div64.h24 := by kernel_rfl
  rw [e1] at he; rw [e2] at hh; cases he; cases hh
  unfold bits_Div64.c24 at h; dsimp only at h
  split at h
  · rw [← bits_Div64.l24_eq] at h
    exact loop_ok (evCode_ok (bits_Div64.env N) Tryz_mixed (bits_Div64.res_eq N) 379 bits_Div64.b24 (AllCut.of (l := []) (by kernel_rfl) AllCut.nil)) h
  · cases h
theorem bits_Div64.k17 (N : Nat) : CutOK Tryz.prog Tryz.f91 (bits_Div64.E N) (.loop bits_Div64.b17) := by
  intro e hd he hh R vs H k r h
  have e1 : (bits_Div64.E N).cut (loopKey bits_Div64.b17) = some (bits_Div64.c17 N) := by kernel_rfl
  have e2 : (bits_Div64.E N).hint (loopKey bits_Div64.b17) = some bits_Div64.h17 := by kernel_rfl
  rw [e1] at he; rw [e2] at hh; cases he; cases hh
  unfold bits_Div64.c17 at h; dsimp only at h
  split at h
  · rw [← bits_Div64.l17_eq] at h
    exact loop_ok (evCode_ok (bits_Div64.env N) Tryz_mixed (bits_Div64.res_eq N) 383 bits_Div64.b17 (AllCut.of (l := []) (by kernel_rfl) AllCut.nil)) h
  · cases h
theorem bits_Div64.spec (N : Nat) (a1 : Int) (a2 : Int) (a3 : Int) (r : Int × Int) (h : bits_Div64.f N a1 a2 a3 = some r) : FnSpec Tryz.prog 91 [.c (.int .u64 a1), .c (.int .u64 a2), .c (.int .u64 a3)] [] (.tup [.c (.int .u64 r.1), .c (.int .u64 r.2)]) ([]) := by
  rw [← bits_Div64.f_eq] at h
  obtain ⟨v, bs', h1, h2⟩ := evFun_ok (bits_Div64.env N) Tryz_mixed Tryz.func91 (by kernel_rfl : Tryz.f91.body = some bits_Div64.body) (by kernel_rfl) (bits_Div64.res_eq N) (by kernel_rfl) (by kernel_rfl) (Nat.le_of_ble_eq_true (by kernel_rfl)) (AllCut.of (l := [(.loop (inner ((subLoops bits_Div64.body).getD 0 .skip))), (.loop (inner ((subLoops bits_Div64.body).getD 1 .skip)))]) (by kernel_rfl) (AllCut.cons (bits_Div64.k17 N) (AllCut.cons (bits_Div64.k24 N) AllCut.nil))) h
  unfold bits_Div64.dec at h1; split at h1
  · cases h1; exact h2
  · cases h1
theorem bits_Div64.ent_ok (N : Nat) : TabOK1 Tryz.prog 91 (bits_Div64.ent N) := by
  intro args bs a enc h
  simp only [bits_Div64.ent] at h
  split at h
  · rename_i hz; have h0 := Option.some.inj h; have h1 := congrArg Prod.fst h0; have h2 := congrArg Prod.snd h0; dsimp only at h1 h2; subst h2; exact FnSpec.of_freeze hz (bits_Div64.spec N _ _ _ a h1)
  · cases h
/-! parquet/modular.mod: function 72 -/
noncomputable def modular_mod.f (N : Nat) (a1 : Int) (a2 : Int) : Option (Int) :=
  bif !(a2 == 0) then
    bif decide ((Int.tmod a1 a2) < 0) then
      some (wi64 ((Int.tmod a1 a2) + a2))
    else
    some (Int.tmod a1 a2)
  else none
noncomputable def modular_mod.body : Code := (Tryz.f72.body).getD .skip
noncomputable def modular_mod.ty : List (Nat × TI) := []
noncomputable def modular_mod.E (N : Nat) : Env := { ty := lookN modular_mod.ty, tab := lookN [], hint := lookN [], cut := lookN [], N := N, res := [.tmp 4], rsh := [.any], nb := 0, ntmps := 14, own := false }
noncomputable def modular_mod.dec (v : V) (bs : List Blk) : Option (Int) := match v, bs with
  | .c (.int .i64 z0), [] => some z0
  | _, _ => none
set_option maxRecDepth 100000 in
theorem modular_mod.f_eq (N : Nat) (a1 : Int) (a2 : Int) :
    evFun (modular_mod.E N) modular_mod.body [.c (.int .i64 a1), .c (.int .i64 a2)] [] modular_mod.dec = modular_mod.f N a1 a2 := by kernel_rfl
noncomputable def modular_mod.ent (N : Nat) : Entry := { A := Int, fresh := 0, imm := [true, true], dec := fun args bs => match freezeL 0 (fun _ => .dead) [.any, .any] args, bs with
  | some [.c (.int .i64 a1), .c (.int .i64 a2)], [] => some (modular_mod.f N a1 a2, fun r => .one (.c (.int .i64 r)) [])
  | _, _ => none }
theorem modular_mod.env (N : Nat) : EnvOK Tryz.prog (modular_mod.E N) := ⟨TyOK.nil, TabOK.nil⟩
theorem modular_mod.res_eq (N : Nat) : (modular_mod.E N).res = Tryz.f72.results.toList := by kernel_rfl
theorem modular_mod.spec (N : Nat) (a1 : Int) (a2 : Int) (r : Int) (h : modular_mod.f N a1 a2 = some r) : FnSpec Tryz.prog 72 [.c (.int .i64 a1), .c (.int .i64 a2)] [] (.c (.int .i64 r)) ([]) := by
  rw [← modular_mod.f_eq] at h
  obtain ⟨v, bs', h1, h2⟩ := evFun_ok (modular_mod.env N) Tryz_mixed Tryz.func72 (by kernel_rfl : Tryz.f72.body = some modular_mod.body) (by kernel_rfl) (modular_mod.res_eq N) (by kernel_rfl) (by kernel_rfl) (Nat.le_of_ble_eq_true (by kernel_rfl)) (AllCut.of (l := []) (by kernel_rfl) AllCut.nil) h
  unfold modular_mod.dec at h1; split at h1
  · cases h1; exact h2
  · cases h1
theorem modular_mod.ent_ok (N : Nat) : TabOK1 Tryz.prog 72 (modular_mod.ent N) := by
  intro args bs a enc h
  simp only [modular_mod.ent] at h
  split at h
  · rename_i hz; have h0 := Option.some.inj h; have h1 := congrArg Prod.fst h0; have h2 := congrArg Prod.snd h0; dsimp only at h1 h2; subst h2; exact FnSpec.of_freeze hz (modular_mod.spec N _ _ a h1)
  · cases h
/-! parquet/modular.times: function 71 -/
noncomputable def modular_times.f (N : Nat) (a1 : Int) (a2 : Int) (a3 : Int) : Option (Int) :=
  (bits_Mul64.f N (wu64 a1) (wu64 a2)).bind fun r4 =>
  (bits_Div64.f N r4.1 r4.2 (wu64 a3)).bind fun r5 =>
  some (wi64 r5.2)
noncomputable def modular_times.body : Code := (Tryz.f71.body).getD .skip
noncomputable def modular_times.ty : List (Nat × TI) := [(2, ty2), (41, ty41)]
noncomputable def modular_times.E (N : Nat) : Env := { ty := lookN modular_times.ty, tab := lookN [(90, bits_Mul64.ent N), (91, bits_Div64.ent N)], hint := lookN [], cut := lookN [], N := N, res := [.tmp 6], rsh := [.any], nb := 0, ntmps := 29, own := false }
noncomputable def modular_times.dec (v : V) (bs : List Blk) : Option (Int) := match v, bs with
  | .c (.int .i64 z0), [] => some z0
  | _, _ => none
set_option maxRecDepth 100000 in
theorem modular_times.f_eq (N : Nat) (a1 : Int) (a2 : Int) (a3 : Int) :
    evFun (modular_times.E N) modular_times.body [.c (.int .i64 a1), .c (.int .i64 a2), .c (.int .i64 a3)] [] modular_times.dec = modular_times.f N a1 a2 a3 := by kernel_rfl
noncomputable def modular_times.ent (N : Nat) : Entry := { A := Int, fresh := 0, imm := [true, true, true], dec := fun args bs => match freezeL 0 (fun _ => .dead) [.any, .any, .any] args, bs with
  | some [.c (.int .i64 a1), .c (.int .i64 a2), .c (.int .i64 a3)], [] => some (modular_times.f N a1 a2 a3, fun r => .one (.c (.int .i64 r)) [])
  | _, _ => none }
theorem modular_times.env (N : Nat) : EnvOK Tryz.prog (modular_times.E N) := ⟨(TyOK.cons ty2_ok (TyOK.cons ty41_ok TyOK.nil)), (TabOK.cons (bits_Mul64.ent_ok N) (TabOK.cons (bits_Div64.ent_ok N) TabOK.nil))⟩
theorem modular_times.res_eq (N : Nat) : (modular_times.E N).res = Tryz.f71.results.toList := by kernel_rfl
theorem modular_times.spec (N : Nat) (a1 : Int) (a2 : Int) (a3 : Int) (r : Int) (h : modular_times.f N a1 a2 a3 = some r) : FnSpec Tryz.prog 71 [.c (.int .i64 a1), .c (.int .i64 a2), .c (.int .i64 a3)] [] (.c (.int .i64 r)) ([]) := by
  rw [← modular_times.f_eq] at h
  obtain ⟨v, bs', h1, h2⟩ := evFun_ok (modular_times.env N) Tryz_mixed Tryz.func71 (by kernel_rfl : Tryz.f71.body = some modular_times.body) (by kernel_rfl) (modular_times.res_eq N) (by kernel_rfl) (by kernel_rfl) (Nat.le_of_ble_eq_true (by kernel_rfl)) (AllCut.of (l := []) (by kernel_rfl) AllCut.nil) h
  unfold modular_times.dec at h1; split at h1
  · cases h1; exact h2
  · cases h1
theorem modular_times.ent_ok (N : Nat) : TabOK1 Tryz.prog 71 (modular_times.ent N) := by
  intro args bs a enc h
  simp only [modular_times.ent] at h
  split at h
  · rename_i hz; have h0 := Option.some.inj h; have h1 := congrArg Prod.fst h0; have h2 := congrArg Prod.snd h0; dsimp only at h1 h2; subst h2; exact FnSpec.of_freeze hz (modular_times.spec N _ _ _ a h1)
  · cases h
/-! parquet/modular.Mul: function 44 -/
noncomputable def modular_Mul.f (N : Nat) (a1 : Int) (a2 : Int) (a3 : Int) : Option (Int × Int) :=
  bif decide (a3 < 1) then
    some (0, 2)
  else
  bif decide (a3 > 4611686018427387904) then
    some (0, 2)
  else
  (modular_mod.f N a1 a3).bind fun r4 =>
  (modular_mod.f N a2 a3).bind fun r5 =>
  (modular_times.f N r4 r5 a3).bind fun r6 =>
  some (r6, 0)
noncomputable def modular_Mul.body : Code := (Tryz.f44.body).getD .skip
noncomputable def modular_Mul.ty : List (Nat × TI) := []
noncomputable def modular_Mul.E (N : Nat) : Env := { ty := lookN modular_Mul.ty, tab := lookN [(72, modular_mod.ent N), (71, modular_times.ent N)], hint := lookN [], cut := lookN [], N := N, res := [.tmp 6, .tmp 7], rsh := [.any, .any], nb := 0, ntmps := 22, own := false }
noncomputable def modular_Mul.dec (v : V) (bs : List Blk) : Option (Int × Int) := match v, bs with
  | .tup [.c (.int .i64 z0), .c (.int .i64 z1)], [] => some (z0, z1)
  | _, _ => none
set_option maxRecDepth 100000 in
theorem modular_Mul.f_eq (N : Nat) (a1 : Int) (a2 : Int) (a3 : Int) :
    evFun (modular_Mul.E N) modular_Mul.body [.c (.int .i64 a1), .c (.int .i64 a2), .c (.int .i64 a3)] [] modular_Mul.dec = modular_Mul.f N a1 a2 a3 := by kernel_rfl
noncomputable def modular_Mul.ent (N : Nat) : Entry := { A := Int × Int, fresh := 0, imm := [true, true, true], dec := fun args bs => match freezeL 0 (fun _ => .dead) [.any, .any, .any] args, bs with
  | some [.c (.int .i64 a1), .c (.int .i64 a2), .c (.int .i64 a3)], [] => some (modular_Mul.f N a1 a2 a3, fun r => .one (.tup [.c (.int .i64 r.1), .c (.int .i64 r.2)]) [])
  | _, _ => none }
theorem modular_Mul.env (N : Nat) : EnvOK Tryz.prog (modular_Mul.E N) := ⟨TyOK.nil, (TabOK.cons (modular_mod.ent_ok N) (TabOK.cons (modular_times.ent_ok N) TabOK.nil))⟩
theorem modular_Mul.res_eq (N : Nat) : (modular_Mul.E N).res = Tryz.f44.results.toList := by kernel_rfl
theorem modular_Mul.spec (N : Nat) (a1 : Int) (a2 : Int) (a3 : Int) (r : Int × Int) (h : modular_Mul.f N a1 a2 a3 = some r) : FnSpec Tryz.prog 44 [.c (.int .i64 a1), .c (.int .i64 a2), .c (.int .i64 a3)] [] (.tup [.c (.int .i64 r.1), .c (.int .i64 r.2)]) ([]) := by
  rw [← modular_Mul.f_eq] at h
  obtain ⟨v, bs', h1, h2⟩ := evFun_ok (modular_Mul.env N) Tryz_mixed Tryz.func44 (by kernel_rfl : Tryz.f44.body = some modular_Mul.body) (by kernel_rfl) (modular_Mul.res_eq N) (by kernel_rfl) (by kernel_rfl) (Nat.le_of_ble_eq_true (by kernel_rfl)) (AllCut.of (l := []) (by kernel_rfl) AllCut.nil) h
  unfold modular_Mul.dec at h1; split at h1
  · cases h1; exact h2
  · cases h1
theorem modular_Mul.ent_ok (N : Nat) : TabOK1 Tryz.prog 44 (modular_Mul.ent N) := by
  intro args bs a enc h
  simp only [modular_Mul.ent] at h
  split at h
  · rename_i hz; have h0 := Option.some.inj h; have h1 := congrArg Prod.fst h0; have h2 := congrArg Prod.snd h0; dsimp only at h1 h2; subst h2; exact FnSpec.of_freeze hz (modular_Mul.spec N _ _ _ a h1)
  · cases h
/-! parquet/compose.mul: function 27 -/
noncomputable def compose_mul.f (N : Nat) (a1 : Int) (a2 : Int) (a3 : Int) : Option (Int) :=
  (modular_Mul.f N a1 a2 a3).bind fun r4 =>
  some r4.1
noncomputable def compose_mul.body : Code := (Tryz.f27.body).getD .skip
noncomputable def compose_mul.ty : List (Nat × TI) := []
noncomputable def compose_mul.E (N : Nat) : Env := { ty := lookN compose_mul.ty, tab := lookN [(44, modular_Mul.ent N)], hint := lookN [], cut := lookN [], N := N, res := [.tmp 6], rsh := [.any], nb := 0, ntmps := 17, own := false }
noncomputable def compose_mul.dec (v : V) (bs : List Blk) : Option (Int) := match v, bs with
  | .c (.int .i64 z0), [] => some z0
  | _, _ => none
set_option maxRecDepth 100000 in
theorem compose_mul.f_eq (N : Nat) (a1 : Int) (a2 : Int) (a3 : Int) :
    evFun (compose_mul.E N) compose_mul.body [.c (.int .i64 a1), .c (.int .i64 a2), .c (.int .i64 a3)] [] compose_mul.dec = compose_mul.f N a1 a2 a3 := by kernel_rfl
noncomputable def compose_mul.ent (N : Nat) : Entry := { A := Int, fresh := 0, imm := [true, true, true], dec := fun args bs => match freezeL 0 (fun _ => .dead) [.any, .any, .any] args, bs with
  | some [.c (.int .i64 a1), .c (.int .i64 a2), .c (.int .i64 a3)], [] => some (compose_mul.f N a1 a2 a3, fun r => .one (.c (.int .i64 r)) [])
  | _, _ => none }
theorem compose_mul.env (N : Nat) : EnvOK Tryz.prog (compose_mul.E N) := ⟨TyOK.nil, (TabOK.cons (modular_Mul.ent_ok N) TabOK.nil)⟩
theorem compose_mul.res_eq (N : Nat) : (compose_mul.E N).res = Tryz.f27.results.toList := by kernel_rfl
theorem compose_mul.spec (N : Nat) (a1 : Int) (a2 : Int) (a3 : Int) (r : Int) (h : compose_mul.f N a1 a2 a3 = some r) : FnSpec Tryz.prog 27 [.c (.int .i64 a1), .c (.int .i64 a2), .c (.int .i64 a3)] [] (.c (.int .i64 r)) ([]) := by
  rw [← compose_mul.f_eq] at h
  obtain ⟨v, bs', h1, h2⟩ := evFun_ok (compose_mul.env N) Tryz_mixed Tryz.func27 (by kernel_rfl : Tryz.f27.body = some compose_mul.body) (by kernel_rfl) (compose_mul.res_eq N) (by kernel_rfl) (by kernel_rfl) (Nat.le_of_ble_eq_true (by kernel_rfl)) (AllCut.of (l := []) (by kernel_rfl) AllCut.nil) h
  unfold compose_mul.dec at h1; split at h1
  · cases h1; exact h2
  · cases h1
theorem compose_mul.ent_ok (N : Nat) : TabOK1 Tryz.prog 27 (compose_mul.ent N) := by
  intro args bs a enc h
  simp only [compose_mul.ent] at h
  split at h
  · rename_i hz; have h0 := Option.some.inj h; have h1 := congrArg Prod.fst h0; have h2 := congrArg Prod.snd h0; dsimp only at h1 h2; subst h2; exact FnSpec.of_freeze hz (compose_mul.spec N _ _ _ a h1)
  · cases h
/-! parquet/compose.One: function 22 -/
noncomputable def compose_One.f (N : Nat) (a1 : Int) : Option (Int × Int × Int × Int) :=
  bif decide (a1 > (-3)) then
    some (0, 0, 0, 80)
  else
  bif decide (a1 < (-4294967296)) then
    some (0, 0, 0, 80)
  else
  bif (bit_and .i64 (wi64 (0 - a1)) 3) == 1 then
    some (0, 0, 0, 80)
  else
  bif (bit_and .i64 (wi64 (0 - a1)) 3) == 2 then
    some (0, 0, 0, 80)
  else
  some (1, bit_and .i64 (wi64 (0 - a1)) 1, wi64 (Int.tdiv (wi64 ((bit_and .i64 (wi64 (0 - a1)) 1) - a1)) 4), 0)
noncomputable def compose_One.body : Code := (Tryz.f22.body).getD .skip
noncomputable def compose_One.ty : List (Nat × TI) := [(2, ty2), (23, ty23)]
noncomputable def compose_One.E (N : Nat) : Env := { ty := lookN compose_One.ty, tab := lookN [], hint := lookN [], cut := lookN [], N := N, res := [.cell 2 23, .tmp 3], rsh := [.recd [.any, .any, .any], .any], nb := 0, ntmps := 33, own := false }
noncomputable def compose_One.dec (v : V) (bs : List Blk) : Option (Int × Int × Int × Int) := match v, bs with
  | .tup [.agg [.c (.int .i64 z0), .c (.int .i64 z1), .c (.int .i64 z2)], .c (.int .i64 z3)], [] => some (z0, z1, z2, z3)
  | _, _ => none
set_option maxRecDepth 100000 in
theorem compose_One.f_eq (N : Nat) (a1 : Int) :
    evFun (compose_One.E N) compose_One.body [.c (.int .i64 a1)] [] compose_One.dec = compose_One.f N a1 := by kernel_rfl
noncomputable def compose_One.ent (N : Nat) : Entry := { A := Int × Int × Int × Int, fresh := 0, imm := [true], dec := fun args bs => match freezeL 0 (fun _ => .dead) [.any] args, bs with
  | some [.c (.int .i64 a1)], [] => some (compose_One.f N a1, fun r => .one (.tup [.agg [.c (.int .i64 r.1), .c (.int .i64 r.2.1), .c (.int .i64 r.2.2.1)], .c (.int .i64 r.2.2.2)]) [])
  | _, _ => none }
theorem compose_One.env (N : Nat) : EnvOK Tryz.prog (compose_One.E N) := ⟨(TyOK.cons ty2_ok (TyOK.cons ty23_ok TyOK.nil)), TabOK.nil⟩
theorem compose_One.res_eq (N : Nat) : (compose_One.E N).res = Tryz.f22.results.toList := by kernel_rfl
theorem compose_One.spec (N : Nat) (a1 : Int) (r : Int × Int × Int × Int) (h : compose_One.f N a1 = some r) : FnSpec Tryz.prog 22 [.c (.int .i64 a1)] [] (.tup [.agg [.c (.int .i64 r.1), .c (.int .i64 r.2.1), .c (.int .i64 r.2.2.1)], .c (.int .i64 r.2.2.2)]) ([]) := by
  rw [← compose_One.f_eq] at h
  obtain ⟨v, bs', h1, h2⟩ := evFun_ok (compose_One.env N) Tryz_mixed Tryz.func22 (by kernel_rfl : Tryz.f22.body = some compose_One.body) (by kernel_rfl) (compose_One.res_eq N) (by kernel_rfl) (by kernel_rfl) (Nat.le_of_ble_eq_true (by kernel_rfl)) (AllCut.of (l := []) (by kernel_rfl) AllCut.nil) h
  unfold compose_One.dec at h1; split at h1
  · cases h1; exact h2
  · cases h1
theorem compose_One.ent_ok (N : Nat) : TabOK1 Tryz.prog 22 (compose_One.ent N) := by
  intro args bs a enc h
  simp only [compose_One.ent] at h
  split at h
  · rename_i hz; have h0 := Option.some.inj h; have h1 := congrArg Prod.fst h0; have h2 := congrArg Prod.snd h0; dsimp only at h1 h2; subst h2; exact FnSpec.of_freeze hz (compose_One.spec N _ a h1)
  · cases h
/-! parquet/compose.reduced: function 13 -/
noncomputable def compose_reduced.f (N : Nat) (a1 : Int) (a2 : Int) (a3 : Int) : Option (Int × Int × Int × Int) :=
  (binary_Reduce.f N a1 a2 a3).bind fun r4 =>
  bif r4.2.2.2.2.2.2.2 != 0 then
    some (r4.1, r4.2.1, r4.2.2.1, r4.2.2.2.2.2.2.2)
  else
  (binary_Content.f N a1 a2 a3).bind fun r5 =>
  bif r5 != 1 then
    some (0, 0, 0, 81)
  else
  some (r4.1, r4.2.1, r4.2.2.1, 0)
noncomputable def compose_reduced.body : Code := (Tryz.f13.body).getD .skip
noncomputable def compose_reduced.ty : List (Nat × TI) := [(2, ty2), (23, ty23), (37, ty37)]
noncomputable def compose_reduced.E (N : Nat) : Env := { ty := lookN compose_reduced.ty, tab := lookN [(20, binary_Reduce.ent N), (25, binary_Content.ent N)], hint := lookN [], cut := lookN [], N := N, res := [.cell 2 23, .tmp 3], rsh := [.recd [.any, .any, .any], .any], nb := 0, ntmps := 24, own := false }
noncomputable def compose_reduced.dec (v : V) (bs : List Blk) : Option (Int × Int × Int × Int) := match v, bs with
  | .tup [.agg [.c (.int .i64 z0), .c (.int .i64 z1), .c (.int .i64 z2)], .c (.int .i64 z3)], [] => some (z0, z1, z2, z3)
  | _, _ => none
set_option maxRecDepth 100000 in
theorem compose_reduced.f_eq (N : Nat) (a1 : Int) (a2 : Int) (a3 : Int) :
    evFun (compose_reduced.E N) compose_reduced.body [.agg [.c (.int .i64 a1), .c (.int .i64 a2), .c (.int .i64 a3)]] [] compose_reduced.dec = compose_reduced.f N a1 a2 a3 := by kernel_rfl
noncomputable def compose_reduced.ent (N : Nat) : Entry := { A := Int × Int × Int × Int, fresh := 0, imm := [true], dec := fun args bs => match freezeL 0 (fun _ => .dead) [.recd [.any, .any, .any]] args, bs with
  | some [.agg [.c (.int .i64 a1), .c (.int .i64 a2), .c (.int .i64 a3)]], [] => some (compose_reduced.f N a1 a2 a3, fun r => .one (.tup [.agg [.c (.int .i64 r.1), .c (.int .i64 r.2.1), .c (.int .i64 r.2.2.1)], .c (.int .i64 r.2.2.2)]) [])
  | _, _ => none }
theorem compose_reduced.env (N : Nat) : EnvOK Tryz.prog (compose_reduced.E N) := ⟨(TyOK.cons ty2_ok (TyOK.cons ty23_ok (TyOK.cons ty37_ok TyOK.nil))), (TabOK.cons (binary_Reduce.ent_ok N) (TabOK.cons (binary_Content.ent_ok N) TabOK.nil))⟩
theorem compose_reduced.res_eq (N : Nat) : (compose_reduced.E N).res = Tryz.f13.results.toList := by kernel_rfl
theorem compose_reduced.spec (N : Nat) (a1 : Int) (a2 : Int) (a3 : Int) (r : Int × Int × Int × Int) (h : compose_reduced.f N a1 a2 a3 = some r) : FnSpec Tryz.prog 13 [.agg [.c (.int .i64 a1), .c (.int .i64 a2), .c (.int .i64 a3)]] [] (.tup [.agg [.c (.int .i64 r.1), .c (.int .i64 r.2.1), .c (.int .i64 r.2.2.1)], .c (.int .i64 r.2.2.2)]) ([]) := by
  rw [← compose_reduced.f_eq] at h
  obtain ⟨v, bs', h1, h2⟩ := evFun_ok (compose_reduced.env N) Tryz_mixed Tryz.func13 (by kernel_rfl : Tryz.f13.body = some compose_reduced.body) (by kernel_rfl) (compose_reduced.res_eq N) (by kernel_rfl) (by kernel_rfl) (Nat.le_of_ble_eq_true (by kernel_rfl)) (AllCut.of (l := []) (by kernel_rfl) AllCut.nil) h
  unfold compose_reduced.dec at h1; split at h1
  · cases h1; exact h2
  · cases h1
theorem compose_reduced.ent_ok (N : Nat) : TabOK1 Tryz.prog 13 (compose_reduced.ent N) := by
  intro args bs a enc h
  simp only [compose_reduced.ent] at h
  split at h
  · rename_i hz; have h0 := Option.some.inj h; have h1 := congrArg Prod.fst h0; have h2 := congrArg Prod.snd h0; dsimp only at h1 h2; subst h2; exact FnSpec.of_freeze hz (compose_reduced.spec N _ _ _ a h1)
  · cases h
/-! parquet/compose.product: function 15 -/
noncomputable def compose_product.l12 {R : Type} (N : Nat) : Nat → Int → Int → Int → Int → Int → Int → (Int → Int → Int → Option R) → Option R
  | 0, _, _, _, _, _, _, _ => none
  | n + 1, x13, x14, x15, x16, x17, x18, kr =>
    bif !((wi64 (2 * x14)) == 0) then
      bif !((wi64 (2 * x14)) == 0) then
        bif decide ((Int.tmod (wi64 ((Int.tmod x15 (wi64 (2 * x14))) + (wi64 (2 * x14)))) (wi64 (2 * x14))) > x14) then
          bif !((wi64 (4 * x14)) == 0) then
            bif decide (x14 < (wi64 (Int.tdiv (wi64 ((wi64 ((wi64 ((Int.tmod (wi64 ((Int.tmod x15 (wi64 (2 * x14))) + (wi64 (2 * x14)))) (wi64 (2 * x14))) - (wi64 (2 * x14)))) * (wi64 ((Int.tmod (wi64 ((Int.tmod x15 (wi64 (2 * x14))) + (wi64 (2 * x14)))) (wi64 (2 * x14))) - (wi64 (2 * x14)))))) - x13)) (wi64 (4 * x14))))) then
              kr x14 (wi64 ((Int.tmod (wi64 ((Int.tmod x15 (wi64 (2 * x14))) + (wi64 (2 * x14)))) (wi64 (2 * x14))) - (wi64 (2 * x14)))) (wi64 (Int.tdiv (wi64 ((wi64 ((wi64 ((Int.tmod (wi64 ((Int.tmod x15 (wi64 (2 * x14))) + (wi64 (2 * x14)))) (wi64 (2 * x14))) - (wi64 (2 * x14)))) * (wi64 ((Int.tmod (wi64 ((Int.tmod x15 (wi64 (2 * x14))) + (wi64 (2 * x14)))) (wi64 (2 * x14))) - (wi64 (2 * x14)))))) - x13)) (wi64 (4 * x14))))
            else
            bif x14 == (wi64 (Int.tdiv (wi64 ((wi64 ((wi64 ((Int.tmod (wi64 ((Int.tmod x15 (wi64 (2 * x14))) + (wi64 (2 * x14)))) (wi64 (2 * x14))) - (wi64 (2 * x14)))) * (wi64 ((Int.tmod (wi64 ((Int.tmod x15 (wi64 (2 * x14))) + (wi64 (2 * x14)))) (wi64 (2 * x14))) - (wi64 (2 * x14)))))) - x13)) (wi64 (4 * x14)))) then
              bif decide ((wi64 ((Int.tmod (wi64 ((Int.tmod x15 (wi64 (2 * x14))) + (wi64 (2 * x14)))) (wi64 (2 * x14))) - (wi64 (2 * x14)))) ≥ 0) then
                kr x14 (wi64 ((Int.tmod (wi64 ((Int.tmod x15 (wi64 (2 * x14))) + (wi64 (2 * x14)))) (wi64 (2 * x14))) - (wi64 (2 * x14)))) (wi64 (Int.tdiv (wi64 ((wi64 ((wi64 ((Int.tmod (wi64 ((Int.tmod x15 (wi64 (2 * x14))) + (wi64 (2 * x14)))) (wi64 (2 * x14))) - (wi64 (2 * x14)))) * (wi64 ((Int.tmod (wi64 ((Int.tmod x15 (wi64 (2 * x14))) + (wi64 (2 * x14)))) (wi64 (2 * x14))) - (wi64 (2 * x14)))))) - x13)) (wi64 (4 * x14))))
              else
              compose_product.l12 N n x13 (wi64 (Int.tdiv (wi64 ((wi64 ((wi64 ((Int.tmod (wi64 ((Int.tmod x15 (wi64 (2 * x14))) + (wi64 (2 * x14)))) (wi64 (2 * x14))) - (wi64 (2 * x14)))) * (wi64 ((Int.tmod (wi64 ((Int.tmod x15 (wi64 (2 * x14))) + (wi64 (2 * x14)))) (wi64 (2 * x14))) - (wi64 (2 * x14)))))) - x13)) (wi64 (4 * x14)))) (wi64 (0 - (wi64 ((Int.tmod (wi64 ((Int.tmod x15 (wi64 (2 * x14))) + (wi64 (2 * x14)))) (wi64 (2 * x14))) - (wi64 (2 * x14)))))) x16 x17 x18 kr
            else
            compose_product.l12 N n x13 (wi64 (Int.tdiv (wi64 ((wi64 ((wi64 ((Int.tmod (wi64 ((Int.tmod x15 (wi64 (2 * x14))) + (wi64 (2 * x14)))) (wi64 (2 * x14))) - (wi64 (2 * x14)))) * (wi64 ((Int.tmod (wi64 ((Int.tmod x15 (wi64 (2 * x14))) + (wi64 (2 * x14)))) (wi64 (2 * x14))) - (wi64 (2 * x14)))))) - x13)) (wi64 (4 * x14)))) (wi64 (0 - (wi64 ((Int.tmod (wi64 ((Int.tmod x15 (wi64 (2 * x14))) + (wi64 (2 * x14)))) (wi64 (2 * x14))) - (wi64 (2 * x14)))))) x16 x17 x18 kr
          else none
        else
        bif !((wi64 (4 * x14)) == 0) then
          bif decide (x14 < (wi64 (Int.tdiv (wi64 ((wi64 ((Int.tmod (wi64 ((Int.tmod x15 (wi64 (2 * x14))) + (wi64 (2 * x14)))) (wi64 (2 * x14))) * (Int.tmod (wi64 ((Int.tmod x15 (wi64 (2 * x14))) + (wi64 (2 * x14)))) (wi64 (2 * x14))))) - x13)) (wi64 (4 * x14))))) then
            kr x14 (Int.tmod (wi64 ((Int.tmod x15 (wi64 (2 * x14))) + (wi64 (2 * x14)))) (wi64 (2 * x14))) (wi64 (Int.tdiv (wi64 ((wi64 ((Int.tmod (wi64 ((Int.tmod x15 (wi64 (2 * x14))) + (wi64 (2 * x14)))) (wi64 (2 * x14))) * (Int.tmod (wi64 ((Int.tmod x15 (wi64 (2 * x14))) + (wi64 (2 * x14)))) (wi64 (2 * x14))))) - x13)) (wi64 (4 * x14))))
          else
          bif x14 == (wi64 (Int.tdiv (wi64 ((wi64 ((Int.tmod (wi64 ((Int.tmod x15 (wi64 (2 * x14))) + (wi64 (2 * x14)))) (wi64 (2 * x14))) * (Int.tmod (wi64 ((Int.tmod x15 (wi64 (2 * x14))) + (wi64 (2 * x14)))) (wi64 (2 * x14))))) - x13)) (wi64 (4 * x14)))) then
            bif decide ((Int.tmod (wi64 ((Int.tmod x15 (wi64 (2 * x14))) + (wi64 (2 * x14)))) (wi64 (2 * x14))) ≥ 0) then
              kr x14 (Int.tmod (wi64 ((Int.tmod x15 (wi64 (2 * x14))) + (wi64 (2 * x14)))) (wi64 (2 * x14))) (wi64 (Int.tdiv (wi64 ((wi64 ((Int.tmod (wi64 ((Int.tmod x15 (wi64 (2 * x14))) + (wi64 (2 * x14)))) (wi64 (2 * x14))) * (Int.tmod (wi64 ((Int.tmod x15 (wi64 (2 * x14))) + (wi64 (2 * x14)))) (wi64 (2 * x14))))) - x13)) (wi64 (4 * x14))))
            else
            compose_product.l12 N n x13 (wi64 (Int.tdiv (wi64 ((wi64 ((Int.tmod (wi64 ((Int.tmod x15 (wi64 (2 * x14))) + (wi64 (2 * x14)))) (wi64 (2 * x14))) * (Int.tmod (wi64 ((Int.tmod x15 (wi64 (2 * x14))) + (wi64 (2 * x14)))) (wi64 (2 * x14))))) - x13)) (wi64 (4 * x14)))) (wi64 (0 - (Int.tmod (wi64 ((Int.tmod x15 (wi64 (2 * x14))) + (wi64 (2 * x14)))) (wi64 (2 * x14))))) x16 x17 x18 kr
          else
          compose_product.l12 N n x13 (wi64 (Int.tdiv (wi64 ((wi64 ((Int.tmod (wi64 ((Int.tmod x15 (wi64 (2 * x14))) + (wi64 (2 * x14)))) (wi64 (2 * x14))) * (Int.tmod (wi64 ((Int.tmod x15 (wi64 (2 * x14))) + (wi64 (2 * x14)))) (wi64 (2 * x14))))) - x13)) (wi64 (4 * x14)))) (wi64 (0 - (Int.tmod (wi64 ((Int.tmod x15 (wi64 (2 * x14))) + (wi64 (2 * x14)))) (wi64 (2 * x14))))) x16 x17 x18 kr
        else none
      else none
    else none
noncomputable def compose_product.f (N : Nat) (a1 : Int) (a2 : Int) (a3 : Int) (a4 : Int) (a5 : Int) (a6 : Int) (a7 : Int) : Option (Int × Int × Int) :=
  bif decide (a1 > a4) then
    (modular_Gcd.f N a1 a4).bind fun r8 =>
    (modular_Gcd.f N (wi64 (Int.tdiv (wi64 (a5 + a2)) 2)) r8.1).bind fun r9 =>
    bif !(r9.1 == 0) then
      bif !(r9.1 == 0) then
        (compose_mul.f N (wi64 (0 - r9.2.2)) (wi64 (a2 - (wi64 (Int.tdiv (wi64 (a5 + a2)) 2)))) (wi64 (Int.tdiv a4 r9.1))).bind fun r10 =>
        (compose_mul.f N r8.2.1 r10 (wi64 (Int.tdiv a4 r9.1))).bind fun r11 =>
        (compose_mul.f N r9.2.1 a3 (wi64 (Int.tdiv a4 r9.1))).bind fun r12 =>
        bif !((wi64 (Int.tdiv a4 r9.1)) == 0) then
          bif !((wi64 (Int.tdiv a4 r9.1)) == 0) then
            compose_product.l12 N N a7 (wi64 ((wi64 (Int.tdiv a4 r9.1)) * (wi64 (Int.tdiv a1 r9.1)))) (wi64 (a2 + (wi64 ((wi64 (2 * (wi64 (Int.tdiv a1 r9.1)))) * (Int.tmod (wi64 ((Int.tmod (wi64 (r11 - r12)) (wi64 (Int.tdiv a4 r9.1))) + (wi64 (Int.tdiv a4 r9.1)))) (wi64 (Int.tdiv a4 r9.1))))))) 0 0 0
              (fun y22 y23 y24 =>
                some (y22, y23, y24))
          else none
        else none
      else none
    else none
  else
  (modular_Gcd.f N a4 a1).bind fun r25 =>
  (modular_Gcd.f N (wi64 (Int.tdiv (wi64 (a2 + a5)) 2)) r25.1).bind fun r26 =>
  bif !(r26.1 == 0) then
    bif !(r26.1 == 0) then
      (compose_mul.f N (wi64 (0 - r26.2.2)) (wi64 (a5 - (wi64 (Int.tdiv (wi64 (a2 + a5)) 2)))) (wi64 (Int.tdiv a1 r26.1))).bind fun r27 =>
      (compose_mul.f N r25.2.1 r27 (wi64 (Int.tdiv a1 r26.1))).bind fun r28 =>
      (compose_mul.f N r26.2.1 a6 (wi64 (Int.tdiv a1 r26.1))).bind fun r29 =>
      bif !((wi64 (Int.tdiv a1 r26.1)) == 0) then
        bif !((wi64 (Int.tdiv a1 r26.1)) == 0) then
          compose_product.l12 N N a7 (wi64 ((wi64 (Int.tdiv a1 r26.1)) * (wi64 (Int.tdiv a4 r26.1)))) (wi64 (a5 + (wi64 ((wi64 (2 * (wi64 (Int.tdiv a4 r26.1)))) * (Int.tmod (wi64 ((Int.tmod (wi64 (r28 - r29)) (wi64 (Int.tdiv a1 r26.1))) + (wi64 (Int.tdiv a1 r26.1)))) (wi64 (Int.tdiv a1 r26.1))))))) 0 0 0
            (fun y30 y31 y32 =>
              some (y30, y31, y32))
        else none
      else none
    else none
  else none
noncomputable def compose_product.body : Code := (Tryz.f15.body).getD .skip
noncomputable def compose_product.ty : List (Nat × TI) := [(2, ty2), (23, ty23)]
noncomputable def compose_product.h12 : Hint := ⟨[(2, .any), (6, .box [.any, .any, .any]), (18, .any), (19, .any)], []⟩
noncomputable def compose_product.c12 (N : Nat) : Cut := ⟨fun vs H k => match vs, H with
  | [.c (.int .i64 x13), .ptr 0 0 3, .c (.int .i64 x14), .c (.int .i64 x15)], [.vals [.c (.int .i64 x16), .c (.int .i64 x17), .c (.int .i64 x18)]] => compose_product.l12 N N x13 x14 x15 x16 x17 x18 (fun x19 x20 x21 => k (.ret (.agg [.c (.int .i64 x19), .c (.int .i64 x20), .c (.int .i64 x21)]) []) .nil)
  | _, _ => none⟩
noncomputable def compose_product.E (N : Nat) : Env := { ty := lookN compose_product.ty, tab := lookN [(26, modular_Gcd.ent N), (27, compose_mul.ent N)], hint := lookN [(12, compose_product.h12)], cut := lookN [(12, compose_product.c12 N)], N := N, res := [.cell 6 23], rsh := [.recd [.any, .any, .any]], nb := 0, ntmps := 138, own := false }
noncomputable def compose_product.b12 : Code := inner ((subLoops compose_product.body).getD 0 .skip)
set_option maxRecDepth 100000 in
theorem compose_product.l12_eq {R : Type} (N n : Nat) (x13 : Int) (x14 : Int) (x15 : Int) (x16 : Int) (x17 : Int) (x18 : Int) (k : Ex → St → Option R) :
    evLoop 0 compose_product.h12 (fun s k => evCode (compose_product.E N) 387 compose_product.b12 s k) n [.c (.int .i64 x13), .ptr 0 0 3, .c (.int .i64 x14), .c (.int .i64 x15)] [.vals [.c (.int .i64 x16), .c (.int .i64 x17), .c (.int .i64 x18)]] k = compose_product.l12 N n x13 x14 x15 x16 x17 x18 (fun x19 x20 x21 => k (.ret (.agg [.c (.int .i64 x19), .c (.int .i64 x20), .c (.int .i64 x21)]) []) .nil) := by
  induction n generalizing x13 x14 x15 x16 x17 x18 with
  | zero => kernel_rfl
  | succ n ih =>
    simp only [compose_product.l12, ← ih]
    kernel_rfl
noncomputable def compose_product.dec (v : V) (bs : List Blk) : Option (Int × Int × Int) := match v, bs with
  | .agg [.c (.int .i64 z0), .c (.int .i64 z1), .c (.int .i64 z2)], [] => some (z0, z1, z2)
  | _, _ => none
set_option maxRecDepth 100000 in
theorem compose_product.f_eq (N : Nat) (a1 : Int) (a2 : Int) (a3 : Int) (a4 : Int) (a5 : Int) (a6 : Int) (a7 : Int) :
    evFun (compose_product.E N) compose_product.body [.agg [.c (.int .i64 a1), .c (.int .i64 a2), .c (.int .i64 a3)], .agg [.c (.int .i64 a4), .c (.int .i64 a5), .c (.int .i64 a6)], .c (.int .i64 a7)] [] compose_product.dec = compose_product.f N a1 a2 a3 a4 a5 a6 a7 := by kernel_rfl
noncomputable def compose_product.ent (N : Nat) : Entry := { A := Int × Int × Int, fresh := 0, imm := [true, true, true], dec := fun args bs => match freezeL 0 (fun _ => .dead) [.recd [.any, .any, .any], .recd [.any, .any, .any], .any] args, bs with
  | some [.agg [.c (.int .i64 a1), .c (.int .i64 a2), .c (.int .i64 a3)], .agg [.c (.int .i64 a4), .c (.int .i64 a5), .c (.int .i64 a6)], .c (.int .i64 a7)], [] => some (compose_product.f N a1 a2 a3 a4 a5 a6 a7, fun r => .one (.agg [.c (.int .i64 r.1), .c (.int .i64 r.2.1), .c (.int .i64 r.2.2)]) [])
  | _, _ => none }
theorem compose_product.env (N : Nat) : EnvOK Tryz.prog (compose_product.E N) := ⟨(TyOK.cons ty2_ok (TyOK.cons ty23_ok TyOK.nil)), (TabOK.cons (modular_Gcd.ent_ok N) (TabOK.cons (compose_mul.ent_ok N) TabOK.nil))⟩
theorem compose_product.res_eq (N : Nat) : (compose_product.E N).res = Tryz.f15.results.toList := by kernel_rfl
theorem compose_product.k12 (N : Nat) : CutOK Tryz.prog Tryz.f15 (compose_product.E N) (.loop compose_product.b12) := by
  intro e hd he hh R vs H k r h
  have e1 : (compose_product.E N).cut (loopKey compose_product.b12) = some (compose_product.c12 N) := by kernel_rfl
  have e2 : (compose_product.E N).hint (loopKey compose_product.b12) = some compose_product.h12 := by kernel_rfl
  rw [e1] at he; rw [e2] at hh; cases he; cases hh
  unfold compose_product.c12 at h; dsimp only at h
  split at h
  · rw [← compose_product.l12_eq] at h
    exact loop_ok (evCode_ok (compose_product.env N) Tryz_mixed (compose_product.res_eq N) 387 compose_product.b12 (AllCut.of (l := []) (by kernel_rfl) AllCut.nil)) h
  · cases h
theorem compose_product.spec (N : Nat) (a1 : Int) (a2 : Int) (a3 : Int) (a4 : Int) (a5 : Int) (a6 : Int) (a7 : Int) (r : Int × Int × Int) (h : compose_product.f N a1 a2 a3 a4 a5 a6 a7 = some r) : FnSpec Tryz.prog 15 [.agg [.c (.int .i64 a1), .c (.int .i64 a2), .c (.int .i64 a3)], .agg [.c (.int .i64 a4), .c (.int .i64 a5), .c (.int .i64 a6)], .c (.int .i64 a7)] [] (.agg [.c (.int .i64 r.1), .c (.int .i64 r.2.1), .c (.int .i64 r.2.2)]) ([]) := by
  rw [← compose_product.f_eq] at h
  obtain ⟨v, bs', h1, h2⟩ := evFun_ok (compose_product.env N) Tryz_mixed Tryz.func15 (by kernel_rfl : Tryz.f15.body = some compose_product.body) (by kernel_rfl) (compose_product.res_eq N) (by kernel_rfl) (by kernel_rfl) (Nat.le_of_ble_eq_true (by kernel_rfl)) (AllCut.of (l := [(.loop (inner ((subLoops compose_product.body).getD 0 .skip)))]) (by kernel_rfl) (AllCut.cons (compose_product.k12 N) AllCut.nil)) h
  unfold compose_product.dec at h1; split at h1
  · cases h1; exact h2
  · cases h1
theorem compose_product.ent_ok (N : Nat) : TabOK1 Tryz.prog 15 (compose_product.ent N) := by
  intro args bs a enc h
  simp only [compose_product.ent] at h
  split at h
  · rename_i hz; have h0 := Option.some.inj h; have h1 := congrArg Prod.fst h0; have h2 := congrArg Prod.snd h0; dsimp only at h1 h2; subst h2; exact FnSpec.of_freeze hz (compose_product.spec N _ _ _ _ _ _ _ a h1)
  · cases h
/-! parquet/compose.Compose: function 5 -/
noncomputable def compose_Compose.f (N : Nat) (a1 : Int) (a2 : Int) (a3 : Int) (a4 : Int) (a5 : Int) (a6 : Int) : Option (Int × Int × Int × Int) :=
  (binary_Check.f N a1 a2 a3).bind fun r7 =>
  bif r7 != 0 then
    some (0, 0, 0, r7)
  else
  (binary_Check.f N a4 a5 a6).bind fun r8 =>
  bif r8 != 0 then
    some (0, 0, 0, r8)
  else
  (compose_reduced.f N a1 a2 a3).bind fun r9 =>
  bif r9.2.2.2 != 0 then
    some (0, 0, 0, r9.2.2.2)
  else
  (compose_reduced.f N a4 a5 a6).bind fun r10 =>
  bif r10.2.2.2 != 0 then
    some (0, 0, 0, r10.2.2.2)
  else
  (binary_Disc.f N a1 a2 a3).bind fun r11 =>
  (binary_Disc.f N a4 a5 a6).bind fun r12 =>
  bif r11 != r12 then
    some (0, 0, 0, 100)
  else
  (compose_product.f N r9.1 r9.2.1 r9.2.2.1 r10.1 r10.2.1 r10.2.2.1 r11).bind fun r13 =>
  some (r13.1, r13.2.1, r13.2.2, 0)
noncomputable def compose_Compose.body : Code := (Tryz.f5.body).getD .skip
noncomputable def compose_Compose.ty : List (Nat × TI) := [(2, ty2), (23, ty23)]
noncomputable def compose_Compose.E (N : Nat) : Env := { ty := lookN compose_Compose.ty, tab := lookN [(12, binary_Check.ent N), (13, compose_reduced.ent N), (14, binary_Disc.ent N), (15, compose_product.ent N)], hint := lookN [], cut := lookN [], N := N, res := [.cell 4 23, .tmp 5], rsh := [.recd [.any, .any, .any], .any], nb := 0, ntmps := 53, own := false }
noncomputable def compose_Compose.dec (v : V) (bs : List Blk) : Option (Int × Int × Int × Int) := match v, bs with
  | .tup [.agg [.c (.int .i64 z0), .c (.int .i64 z1), .c (.int .i64 z2)], .c (.int .i64 z3)], [] => some (z0, z1, z2, z3)
  | _, _ => none
set_option maxRecDepth 100000 in
theorem compose_Compose.f_eq (N : Nat) (a1 : Int) (a2 : Int) (a3 : Int) (a4 : Int) (a5 : Int) (a6 : Int) :
    evFun (compose_Compose.E N) compose_Compose.body [.agg [.c (.int .i64 a1), .c (.int .i64 a2), .c (.int .i64 a3)], .agg [.c (.int .i64 a4), .c (.int .i64 a5), .c (.int .i64 a6)]] [] compose_Compose.dec = compose_Compose.f N a1 a2 a3 a4 a5 a6 := by kernel_rfl
noncomputable def compose_Compose.ent (N : Nat) : Entry := { A := Int × Int × Int × Int, fresh := 0, imm := [true, true], dec := fun args bs => match freezeL 0 (fun _ => .dead) [.recd [.any, .any, .any], .recd [.any, .any, .any]] args, bs with
  | some [.agg [.c (.int .i64 a1), .c (.int .i64 a2), .c (.int .i64 a3)], .agg [.c (.int .i64 a4), .c (.int .i64 a5), .c (.int .i64 a6)]], [] => some (compose_Compose.f N a1 a2 a3 a4 a5 a6, fun r => .one (.tup [.agg [.c (.int .i64 r.1), .c (.int .i64 r.2.1), .c (.int .i64 r.2.2.1)], .c (.int .i64 r.2.2.2)]) [])
  | _, _ => none }
theorem compose_Compose.env (N : Nat) : EnvOK Tryz.prog (compose_Compose.E N) := ⟨(TyOK.cons ty2_ok (TyOK.cons ty23_ok TyOK.nil)), (TabOK.cons (binary_Check.ent_ok N) (TabOK.cons (compose_reduced.ent_ok N) (TabOK.cons (binary_Disc.ent_ok N) (TabOK.cons (compose_product.ent_ok N) TabOK.nil))))⟩
theorem compose_Compose.res_eq (N : Nat) : (compose_Compose.E N).res = Tryz.f5.results.toList := by kernel_rfl
theorem compose_Compose.spec (N : Nat) (a1 : Int) (a2 : Int) (a3 : Int) (a4 : Int) (a5 : Int) (a6 : Int) (r : Int × Int × Int × Int) (h : compose_Compose.f N a1 a2 a3 a4 a5 a6 = some r) : FnSpec Tryz.prog 5 [.agg [.c (.int .i64 a1), .c (.int .i64 a2), .c (.int .i64 a3)], .agg [.c (.int .i64 a4), .c (.int .i64 a5), .c (.int .i64 a6)]] [] (.tup [.agg [.c (.int .i64 r.1), .c (.int .i64 r.2.1), .c (.int .i64 r.2.2.1)], .c (.int .i64 r.2.2.2)]) ([]) := by
  rw [← compose_Compose.f_eq] at h
  obtain ⟨v, bs', h1, h2⟩ := evFun_ok (compose_Compose.env N) Tryz_mixed Tryz.func5 (by kernel_rfl : Tryz.f5.body = some compose_Compose.body) (by kernel_rfl) (compose_Compose.res_eq N) (by kernel_rfl) (by kernel_rfl) (Nat.le_of_ble_eq_true (by kernel_rfl)) (AllCut.of (l := []) (by kernel_rfl) AllCut.nil) h
  unfold compose_Compose.dec at h1; split at h1
  · cases h1; exact h2
  · cases h1
theorem compose_Compose.ent_ok (N : Nat) : TabOK1 Tryz.prog 5 (compose_Compose.ent N) := by
  intro args bs a enc h
  simp only [compose_Compose.ent] at h
  split at h
  · rename_i hz; have h0 := Option.some.inj h; have h1 := congrArg Prod.fst h0; have h2 := congrArg Prod.snd h0; dsimp only at h1 h2; subst h2; exact FnSpec.of_freeze hz (compose_Compose.spec N _ _ _ _ _ _ a h1)
  · cases h
/-! parquet/compose.Inverse: function 7 -/
noncomputable def compose_Inverse.f (N : Nat) (a1 : Int) (a2 : Int) (a3 : Int) : Option (Int × Int × Int × Int) :=
  (compose_reduced.f N a1 a2 a3).bind fun r4 =>
  bif r4.2.2.2 != 0 then
    some (0, 0, 0, r4.2.2.2)
  else
  (binary_Reduce.f N r4.1 (wi64 (0 - r4.2.1)) r4.2.2.1).bind fun r5 =>
  some (r5.1, r5.2.1, r5.2.2.1, r5.2.2.2.2.2.2.2)
noncomputable def compose_Inverse.body : Code := (Tryz.f7.body).getD .skip
noncomputable def compose_Inverse.ty : List (Nat × TI) := [(2, ty2), (23, ty23)]
noncomputable def compose_Inverse.E (N : Nat) : Env := { ty := lookN compose_Inverse.ty, tab := lookN [(13, compose_reduced.ent N), (20, binary_Reduce.ent N)], hint := lookN [], cut := lookN [], N := N, res := [.cell 2 23, .tmp 3], rsh := [.recd [.any, .any, .any], .any], nb := 0, ntmps := 27, own := false }
noncomputable def compose_Inverse.dec (v : V) (bs : List Blk) : Option (Int × Int × Int × Int) := match v, bs with
  | .tup [.agg [.c (.int .i64 z0), .c (.int .i64 z1), .c (.int .i64 z2)], .c (.int .i64 z3)], [] => some (z0, z1, z2, z3)
  | _, _ => none
set_option maxRecDepth 100000 in
theorem compose_Inverse.f_eq (N : Nat) (a1 : Int) (a2 : Int) (a3 : Int) :
    evFun (compose_Inverse.E N) compose_Inverse.body [.agg [.c (.int .i64 a1), .c (.int .i64 a2), .c (.int .i64 a3)]] [] compose_Inverse.dec = compose_Inverse.f N a1 a2 a3 := by kernel_rfl
noncomputable def compose_Inverse.ent (N : Nat) : Entry := { A := Int × Int × Int × Int, fresh := 0, imm := [true], dec := fun args bs => match freezeL 0 (fun _ => .dead) [.recd [.any, .any, .any]] args, bs with
  | some [.agg [.c (.int .i64 a1), .c (.int .i64 a2), .c (.int .i64 a3)]], [] => some (compose_Inverse.f N a1 a2 a3, fun r => .one (.tup [.agg [.c (.int .i64 r.1), .c (.int .i64 r.2.1), .c (.int .i64 r.2.2.1)], .c (.int .i64 r.2.2.2)]) [])
  | _, _ => none }
theorem compose_Inverse.env (N : Nat) : EnvOK Tryz.prog (compose_Inverse.E N) := ⟨(TyOK.cons ty2_ok (TyOK.cons ty23_ok TyOK.nil)), (TabOK.cons (compose_reduced.ent_ok N) (TabOK.cons (binary_Reduce.ent_ok N) TabOK.nil))⟩
theorem compose_Inverse.res_eq (N : Nat) : (compose_Inverse.E N).res = Tryz.f7.results.toList := by kernel_rfl
theorem compose_Inverse.spec (N : Nat) (a1 : Int) (a2 : Int) (a3 : Int) (r : Int × Int × Int × Int) (h : compose_Inverse.f N a1 a2 a3 = some r) : FnSpec Tryz.prog 7 [.agg [.c (.int .i64 a1), .c (.int .i64 a2), .c (.int .i64 a3)]] [] (.tup [.agg [.c (.int .i64 r.1), .c (.int .i64 r.2.1), .c (.int .i64 r.2.2.1)], .c (.int .i64 r.2.2.2)]) ([]) := by
  rw [← compose_Inverse.f_eq] at h
  obtain ⟨v, bs', h1, h2⟩ := evFun_ok (compose_Inverse.env N) Tryz_mixed Tryz.func7 (by kernel_rfl : Tryz.f7.body = some compose_Inverse.body) (by kernel_rfl) (compose_Inverse.res_eq N) (by kernel_rfl) (by kernel_rfl) (Nat.le_of_ble_eq_true (by kernel_rfl)) (AllCut.of (l := []) (by kernel_rfl) AllCut.nil) h
  unfold compose_Inverse.dec at h1; split at h1
  · cases h1; exact h2
  · cases h1
theorem compose_Inverse.ent_ok (N : Nat) : TabOK1 Tryz.prog 7 (compose_Inverse.ent N) := by
  intro args bs a enc h
  simp only [compose_Inverse.ent] at h
  split at h
  · rename_i hz; have h0 := Option.some.inj h; have h1 := congrArg Prod.fst h0; have h2 := congrArg Prod.snd h0; dsimp only at h1 h2; subst h2; exact FnSpec.of_freeze hz (compose_Inverse.spec N _ _ _ a h1)
  · cases h
/-! parquet/compose.Power: function 10 -/
noncomputable def compose_Power.l1000001 {R : Type} (N : Nat) : Nat → Int → Int → Int → Int → Int → Int → Int → Int → Int → Int → Int → Int → Int → Int → Int → (Int → Int → Int → Int → Option R) → Option R
  | 0, _, _, _, _, _, _, _, _, _, _, _, _, _, _, _, _ => none
  | n + 1, x5, x6, x7, x8, x9, x10, x11, x12, x13, x14, x15, x16, x17, x18, x19, kr =>
    bif x6 == 0 then
      kr x17 x18 x19 0
    else
    bif (bit_and .u64 x6 1) == 1 then
      (compose_product.f N x17 x18 x19 x14 x15 x16 x7).bind fun r24 =>
      (compose_product.f N x14 x15 x16 x14 x15 x16 x7).bind fun r25 =>
      compose_Power.l1000001 N n x5 (Int.fdiv x6 (2 ^ 1)) x7 x8 x9 x10 x11 x12 x13 r25.1 r25.2.1 r25.2.2 r24.1 r24.2.1 r24.2.2 kr
    else
    (compose_product.f N x14 x15 x16 x14 x15 x16 x7).bind fun r26 =>
    compose_Power.l1000001 N n x5 (Int.fdiv x6 (2 ^ 1)) x7 x8 x9 x10 x11 x12 x13 r26.1 r26.2.1 r26.2.2 x17 x18 x19 kr
noncomputable def compose_Power.s1000001 {R : Type} (N : Nat) (x27 : Int) (x28 : Int) (x29 : Int) (x30 : Int) (x31 : Int) (x32 : Int) (x33 : Int) (kr : (Int → Int → Int → Int → Option R)) : Option R :=
  (compose_reduced.f N x28 x29 x30).bind fun r34 =>
  bif r34.2.2.2 != 0 then
    kr 0 0 0 r34.2.2.2
  else
  bif decide (x27 < 0) then
    (compose_Inverse.f N r34.1 r34.2.1 r34.2.2.1).bind fun r35 =>
    (binary_Disc.f N r35.1 r35.2.1 r35.2.2.1).bind fun r36 =>
    (compose_One.f N r36).bind fun r37 =>
    bif (wu64 (0 - (wu64 x27))) == 0 then
      kr r37.1 r37.2.1 r37.2.2.1 0
    else
    bif (bit_and .u64 (wu64 (0 - (wu64 x27))) 1) == 1 then
      (compose_product.f N r37.1 r37.2.1 r37.2.2.1 r35.1 r35.2.1 r35.2.2.1 r36).bind fun r38 =>
      (compose_product.f N r35.1 r35.2.1 r35.2.2.1 r35.1 r35.2.1 r35.2.2.1 r36).bind fun r39 =>
      compose_Power.l1000001 N N x27 (Int.fdiv (wu64 (0 - (wu64 x27))) (2 ^ 1)) r36 x28 x29 x30 x31 x32 x33 r39.1 r39.2.1 r39.2.2 r38.1 r38.2.1 r38.2.2 kr
    else
    (compose_product.f N r35.1 r35.2.1 r35.2.2.1 r35.1 r35.2.1 r35.2.2.1 r36).bind fun r40 =>
    compose_Power.l1000001 N N x27 (Int.fdiv (wu64 (0 - (wu64 x27))) (2 ^ 1)) r36 x28 x29 x30 x31 x32 x33 r40.1 r40.2.1 r40.2.2 r37.1 r37.2.1 r37.2.2.1 kr
  else
  (binary_Disc.f N r34.1 r34.2.1 r34.2.2.1).bind fun r41 =>
  (compose_One.f N r41).bind fun r42 =>
  bif (wu64 x27) == 0 then
    kr r42.1 r42.2.1 r42.2.2.1 0
  else
  bif (bit_and .u64 (wu64 x27) 1) == 1 then
    (compose_product.f N r42.1 r42.2.1 r42.2.2.1 r34.1 r34.2.1 r34.2.2.1 r41).bind fun r43 =>
    (compose_product.f N r34.1 r34.2.1 r34.2.2.1 r34.1 r34.2.1 r34.2.2.1 r41).bind fun r44 =>
    compose_Power.l1000001 N N x27 (Int.fdiv (wu64 x27) (2 ^ 1)) r41 x28 x29 x30 x31 x32 x33 r44.1 r44.2.1 r44.2.2 r43.1 r43.2.1 r43.2.2 kr
  else
  (compose_product.f N r34.1 r34.2.1 r34.2.2.1 r34.1 r34.2.1 r34.2.2.1 r41).bind fun r45 =>
  compose_Power.l1000001 N N x27 (Int.fdiv (wu64 x27) (2 ^ 1)) r41 x28 x29 x30 x31 x32 x33 r45.1 r45.2.1 r45.2.2 r42.1 r42.2.1 r42.2.2.1 kr
noncomputable def compose_Power.f (N : Nat) (a1 : Int) (a2 : Int) (a3 : Int) (a4 : Int) : Option (Int × Int × Int × Int) :=
  compose_Power.s1000001 N a4 a1 a2 a3 0 0 0
    (fun y46 y47 y48 y49 =>
      some (y46, y47, y48, y49))
noncomputable def compose_Power.body : Code := (Tryz.f10.body).getD .skip
noncomputable def compose_Power.ty : List (Nat × TI) := [(2, ty2), (23, ty23), (41, ty41)]
noncomputable def compose_Power.h1000001 : Hint := ⟨[(1, .any), (2, .box [.any, .any, .any]), (4, .box [.any, .any, .any]), (6, .any), (8, .any), (9, .any), (10, .any)], [(4, .any), (5, .any)]⟩
noncomputable def compose_Power.c1000001 (N : Nat) : Cut := ⟨fun vs H k => match vs, H with
  | [.c (.int .i64 x27), .ptr 0 0 3, .ptr 1 0 3, .poison, .poison, .poison, .poison], [.vals [.c (.int .i64 x28), .c (.int .i64 x29), .c (.int .i64 x30)], .vals [.c (.int .i64 x31), .c (.int .i64 x32), .c (.int .i64 x33)]] => compose_Power.s1000001 N x27 x28 x29 x30 x31 x32 x33 (fun x20 x21 x22 x23 => k (.ret (.tup [.agg [.c (.int .i64 x20), .c (.int .i64 x21), .c (.int .i64 x22)], .c (.int .i64 x23)]) []) .nil)
  | _, _ => none⟩
noncomputable def compose_Power.E (N : Nat) : Env := { ty := lookN compose_Power.ty, tab := lookN [(13, compose_reduced.ent N), (7, compose_Inverse.ent N), (14, binary_Disc.ent N), (22, compose_One.ent N), (15, compose_product.ent N)], hint := lookN [(1000001, compose_Power.h1000001)], cut := lookN [(1000001, compose_Power.c1000001 N)], N := N, res := [.cell 4 23, .tmp 5], rsh := [.recd [.any, .any, .any], .any], nb := 0, ntmps := 55, own := false }
noncomputable def compose_Power.b1000001 : Code := inner ((subLoops compose_Power.body).getD 0 .skip)
noncomputable def compose_Power.r1000001 : Code := (findLabel compose_Power.b1000001 0).getD .skip
set_option maxRecDepth 100000 in
theorem compose_Power.l1000001_eq {R : Type} (N n : Nat) (x5 : Int) (x6 : Int) (x7 : Int) (x8 : Int) (x9 : Int) (x10 : Int) (x11 : Int) (x12 : Int) (x13 : Int) (x14 : Int) (x15 : Int) (x16 : Int) (x17 : Int) (x18 : Int) (x19 : Int) (k : Ex → St → Option R) :
    evScope 0 compose_Power.h1000001 (fun c s k => evCode (compose_Power.E N) 398 c s k) compose_Power.b1000001 n compose_Power.r1000001 [.c (.int .i64 x5), .ptr 0 0 3, .ptr 1 0 3, .ptr 2 0 3, .c (.int .u64 x6), .c (.int .i64 x7), .ptr 3 0 3] [.vals [.c (.int .i64 x8), .c (.int .i64 x9), .c (.int .i64 x10)], .vals [.c (.int .i64 x11), .c (.int .i64 x12), .c (.int .i64 x13)], .vals [.c (.int .i64 x14), .c (.int .i64 x15), .c (.int .i64 x16)], .vals [.c (.int .i64 x17), .c (.int .i64 x18), .c (.int .i64 x19)]] k = compose_Power.l1000001 N n x5 x6 x7 x8 x9 x10 x11 x12 x13 x14 x15 x16 x17 x18 x19 (fun x20 x21 x22 x23 => k (.ret (.tup [.agg [.c (.int .i64 x20), .c (.int .i64 x21), .c (.int .i64 x22)], .c (.int .i64 x23)]) []) .nil) := by
  induction n generalizing x5 x6 x7 x8 x9 x10 x11 x12 x13 x14 x15 x16 x17 x18 x19 with
  | zero => kernel_rfl
  | succ n ih =>
    simp only [compose_Power.l1000001, ← ih]
    kernel_rfl
set_option maxRecDepth 100000 in
theorem compose_Power.s1000001_eq {R : Type} (N : Nat) (x27 : Int) (x28 : Int) (x29 : Int) (x30 : Int) (x31 : Int) (x32 : Int) (x33 : Int) (k : Ex → St → Option R) :
    evScope 0 compose_Power.h1000001 (fun c s k => evCode (compose_Power.E N) 398 c s k) compose_Power.b1000001 (N + 1) compose_Power.b1000001 [.c (.int .i64 x27), .ptr 0 0 3, .ptr 1 0 3, .poison, .poison, .poison, .poison] [.vals [.c (.int .i64 x28), .c (.int .i64 x29), .c (.int .i64 x30)], .vals [.c (.int .i64 x31), .c (.int .i64 x32), .c (.int .i64 x33)]] k = compose_Power.s1000001 N x27 x28 x29 x30 x31 x32 x33 (fun x20 x21 x22 x23 => k (.ret (.tup [.agg [.c (.int .i64 x20), .c (.int .i64 x21), .c (.int .i64 x22)], .c (.int .i64 x23)]) []) .nil) := by
  simp only [compose_Power.s1000001, ← compose_Power.l1000001_eq]
  kernel_rfl
noncomputable def compose_Power.dec (v : V) (bs : List Blk) : Option (Int × Int × Int × Int) := match v, bs with
  | .tup [.agg [.c (.int .i64 z0), .c (.int .i64 z1), .c (.int .i64 z2)], .c (.int .i64 z3)], [] => some (z0, z1, z2, z3)
  | _, _ => none
set_option maxRecDepth 100000 in
theorem compose_Power.f_eq (N : Nat) (a1 : Int) (a2 : Int) (a3 : Int) (a4 : Int) :
    evFun (compose_Power.E N) compose_Power.body [.agg [.c (.int .i64 a1), .c (.int .i64 a2), .c (.int .i64 a3)], .c (.int .i64 a4)] [] compose_Power.dec = compose_Power.f N a1 a2 a3 a4 := by kernel_rfl
noncomputable def compose_Power.ent (N : Nat) : Entry := { A := Int × Int × Int × Int, fresh := 0, imm := [true, true], dec := fun args bs => match freezeL 0 (fun _ => .dead) [.recd [.any, .any, .any], .any] args, bs with
  | some [.agg [.c (.int .i64 a1), .c (.int .i64 a2), .c (.int .i64 a3)], .c (.int .i64 a4)], [] => some (compose_Power.f N a1 a2 a3 a4, fun r => .one (.tup [.agg [.c (.int .i64 r.1), .c (.int .i64 r.2.1), .c (.int .i64 r.2.2.1)], .c (.int .i64 r.2.2.2)]) [])
  | _, _ => none }
theorem compose_Power.env (N : Nat) : EnvOK Tryz.prog (compose_Power.E N) := ⟨(TyOK.cons ty2_ok (TyOK.cons ty23_ok (TyOK.cons ty41_ok TyOK.nil))), (TabOK.cons (compose_reduced.ent_ok N) (TabOK.cons (compose_Inverse.ent_ok N) (TabOK.cons (binary_Disc.ent_ok N) (TabOK.cons (compose_One.ent_ok N) (TabOK.cons (compose_product.ent_ok N) TabOK.nil)))))⟩
theorem compose_Power.res_eq (N : Nat) : (compose_Power.E N).res = Tryz.f10.results.toList := by kernel_rfl
theorem compose_Power.k1000001 (N : Nat) : CutOK Tryz.prog Tryz.f10 (compose_Power.E N) (.scope compose_Power.b1000001) := by
  intro e hd he hh R vs H k r h
  have e1 : (compose_Power.E N).cut (1000000 + loopKey compose_Power.b1000001) = some (compose_Power.c1000001 N) := by kernel_rfl
  have e2 : (compose_Power.E N).hint (1000000 + loopKey compose_Power.b1000001) = some compose_Power.h1000001 := by kernel_rfl
  rw [e1] at he; rw [e2] at hh; cases he; cases hh
  unfold compose_Power.c1000001 at h; dsimp only at h
  split at h
  · rw [← compose_Power.s1000001_eq] at h
    exact scope_ok (compose_Power.env N) Tryz_mixed (compose_Power.res_eq N) (AllCut.of (l := []) (by kernel_rfl) AllCut.nil) h
  · cases h
theorem compose_Power.spec (N : Nat) (a1 : Int) (a2 : Int) (a3 : Int) (a4 : Int) (r : Int × Int × Int × Int) (h : compose_Power.f N a1 a2 a3 a4 = some r) : FnSpec Tryz.prog 10 [.agg [.c (.int .i64 a1), .c (.int .i64 a2), .c (.int .i64 a3)], .c (.int .i64 a4)] [] (.tup [.agg [.c (.int .i64 r.1), .c (.int .i64 r.2.1), .c (.int .i64 r.2.2.1)], .c (.int .i64 r.2.2.2)]) ([]) := by
  rw [← compose_Power.f_eq] at h
  obtain ⟨v, bs', h1, h2⟩ := evFun_ok (compose_Power.env N) Tryz_mixed Tryz.func10 (by kernel_rfl : Tryz.f10.body = some compose_Power.body) (by kernel_rfl) (compose_Power.res_eq N) (by kernel_rfl) (by kernel_rfl) (Nat.le_of_ble_eq_true (by kernel_rfl)) (AllCut.of (l := [(.scope (inner ((subLoops compose_Power.body).getD 0 .skip)))]) (by kernel_rfl) (AllCut.cons (compose_Power.k1000001 N) AllCut.nil)) h
  unfold compose_Power.dec at h1; split at h1
  · cases h1; exact h2
  · cases h1
theorem compose_Power.ent_ok (N : Nat) : TabOK1 Tryz.prog 10 (compose_Power.ent N) := by
  intro args bs a enc h
  simp only [compose_Power.ent] at h
  split at h
  · rename_i hz; have h0 := Option.some.inj h; have h1 := congrArg Prod.fst h0; have h2 := congrArg Prod.snd h0; dsimp only at h1 h2; subst h2; exact FnSpec.of_freeze hz (compose_Power.spec N _ _ _ _ a h1)
  · cases h
/-! parquet/parquetref10.One: function 23 -/
noncomputable def parquetref10_One.f (N : Nat) (a1 : Int) : Option (Int × Int × Int × Int) :=
  bif decide (a1 > (-3)) then
    some (0, 0, 0, 80)
  else
  bif decide (a1 < (-4294967296)) then
    some (0, 0, 0, 80)
  else
  (parquetref04_Mod.f N a1 4).bind fun r2 =>
  bif r2 == 0 then
    some (1, 0, wi64 (Int.tdiv (wi64 (0 - a1)) 4), 0)
  else
  bif r2 == 1 then
    some (1, 1, wi64 (Int.tdiv (wi64 (1 - a1)) 4), 0)
  else
  some (0, 0, 0, 80)
noncomputable def parquetref10_One.body : Code := (Tryz.f23.body).getD .skip
noncomputable def parquetref10_One.ty : List (Nat × TI) := [(2, ty2), (23, ty23)]
noncomputable def parquetref10_One.E (N : Nat) : Env := { ty := lookN parquetref10_One.ty, tab := lookN [(33, parquetref04_Mod.ent N)], hint := lookN [], cut := lookN [], N := N, res := [.cell 2 23, .tmp 3], rsh := [.recd [.any, .any, .any], .any], nb := 0, ntmps := 26, own := false }
noncomputable def parquetref10_One.dec (v : V) (bs : List Blk) : Option (Int × Int × Int × Int) := match v, bs with
  | .tup [.agg [.c (.int .i64 z0), .c (.int .i64 z1), .c (.int .i64 z2)], .c (.int .i64 z3)], [] => some (z0, z1, z2, z3)
  | _, _ => none
set_option maxRecDepth 100000 in
theorem parquetref10_One.f_eq (N : Nat) (a1 : Int) :
    evFun (parquetref10_One.E N) parquetref10_One.body [.c (.int .i64 a1)] [] parquetref10_One.dec = parquetref10_One.f N a1 := by kernel_rfl
noncomputable def parquetref10_One.ent (N : Nat) : Entry := { A := Int × Int × Int × Int, fresh := 0, imm := [true], dec := fun args bs => match freezeL 0 (fun _ => .dead) [.any] args, bs with
  | some [.c (.int .i64 a1)], [] => some (parquetref10_One.f N a1, fun r => .one (.tup [.agg [.c (.int .i64 r.1), .c (.int .i64 r.2.1), .c (.int .i64 r.2.2.1)], .c (.int .i64 r.2.2.2)]) [])
  | _, _ => none }
theorem parquetref10_One.env (N : Nat) : EnvOK Tryz.prog (parquetref10_One.E N) := ⟨(TyOK.cons ty2_ok (TyOK.cons ty23_ok TyOK.nil)), (TabOK.cons (parquetref04_Mod.ent_ok N) TabOK.nil)⟩
theorem parquetref10_One.res_eq (N : Nat) : (parquetref10_One.E N).res = Tryz.f23.results.toList := by kernel_rfl
theorem parquetref10_One.spec (N : Nat) (a1 : Int) (r : Int × Int × Int × Int) (h : parquetref10_One.f N a1 = some r) : FnSpec Tryz.prog 23 [.c (.int .i64 a1)] [] (.tup [.agg [.c (.int .i64 r.1), .c (.int .i64 r.2.1), .c (.int .i64 r.2.2.1)], .c (.int .i64 r.2.2.2)]) ([]) := by
  rw [← parquetref10_One.f_eq] at h
  obtain ⟨v, bs', h1, h2⟩ := evFun_ok (parquetref10_One.env N) Tryz_mixed Tryz.func23 (by kernel_rfl : Tryz.f23.body = some parquetref10_One.body) (by kernel_rfl) (parquetref10_One.res_eq N) (by kernel_rfl) (by kernel_rfl) (Nat.le_of_ble_eq_true (by kernel_rfl)) (AllCut.of (l := []) (by kernel_rfl) AllCut.nil) h
  unfold parquetref10_One.dec at h1; split at h1
  · cases h1; exact h2
  · cases h1
theorem parquetref10_One.ent_ok (N : Nat) : TabOK1 Tryz.prog 23 (parquetref10_One.ent N) := by
  intro args bs a enc h
  simp only [parquetref10_One.ent] at h
  split at h
  · rename_i hz; have h0 := Option.some.inj h; have h1 := congrArg Prod.fst h0; have h2 := congrArg Prod.snd h0; dsimp only at h1 h2; subst h2; exact FnSpec.of_freeze hz (parquetref10_One.spec N _ a h1)
  · cases h
/-! parquet/parquetlaw10.wakes: function 9 -/
noncomputable def parquetlaw10_wakes.f (N : Nat) : Option (Bool) :=
  (compose_Compose.f N 2 1 3 2 1 3).bind fun r1 =>
  (compose_Power.f N 2 1 3 3).bind fun r2 =>
  bif r1.2.2.2 == 0 then
    bif (r1.1 == 2) && ((r1.2.1 == (-1)) && (r1.2.2.1 == 3)) then
      bif r2.2.2.2 == 0 then
        some ((r2.1 == 1) && ((r2.2.1 == 1) && (r2.2.2.1 == 6)))
      else
      some false
    else
    some false
  else
  some false
noncomputable def parquetlaw10_wakes.body : Code := (Tryz.f9.body).getD .skip
noncomputable def parquetlaw10_wakes.ty : List (Nat × TI) := [(2, ty2), (23, ty23)]
noncomputable def parquetlaw10_wakes.E (N : Nat) : Env := { ty := lookN parquetlaw10_wakes.ty, tab := lookN [(5, compose_Compose.ent N), (10, compose_Power.ent N)], hint := lookN [], cut := lookN [], N := N, res := [.tmp 0], rsh := [.any], nb := 0, ntmps := 34, own := false }
noncomputable def parquetlaw10_wakes.dec (v : V) (bs : List Blk) : Option (Bool) := match v, bs with
  | .c (.bool z0), [] => some z0
  | _, _ => none
set_option maxRecDepth 100000 in
theorem parquetlaw10_wakes.f_eq (N : Nat) :
    evFun (parquetlaw10_wakes.E N) parquetlaw10_wakes.body [] [] parquetlaw10_wakes.dec = parquetlaw10_wakes.f N := by kernel_rfl
noncomputable def parquetlaw10_wakes.ent (N : Nat) : Entry := { A := Bool, fresh := 0, imm := [], dec := fun args bs => match freezeL 0 (fun _ => .dead) [] args, bs with
  | some [], [] => some (parquetlaw10_wakes.f N, fun r => .one (.c (.bool r)) [])
  | _, _ => none }
theorem parquetlaw10_wakes.env (N : Nat) : EnvOK Tryz.prog (parquetlaw10_wakes.E N) := ⟨(TyOK.cons ty2_ok (TyOK.cons ty23_ok TyOK.nil)), (TabOK.cons (compose_Compose.ent_ok N) (TabOK.cons (compose_Power.ent_ok N) TabOK.nil))⟩
theorem parquetlaw10_wakes.res_eq (N : Nat) : (parquetlaw10_wakes.E N).res = Tryz.f9.results.toList := by kernel_rfl
theorem parquetlaw10_wakes.spec (N : Nat) (r : Bool) (h : parquetlaw10_wakes.f N = some r) : FnSpec Tryz.prog 9 [] [] (.c (.bool r)) ([]) := by
  rw [← parquetlaw10_wakes.f_eq] at h
  obtain ⟨v, bs', h1, h2⟩ := evFun_ok (parquetlaw10_wakes.env N) Tryz_mixed Tryz.func9 (by kernel_rfl : Tryz.f9.body = some parquetlaw10_wakes.body) (by kernel_rfl) (parquetlaw10_wakes.res_eq N) (by kernel_rfl) (by kernel_rfl) (Nat.le_of_ble_eq_true (by kernel_rfl)) (AllCut.of (l := []) (by kernel_rfl) AllCut.nil) h
  unfold parquetlaw10_wakes.dec at h1; split at h1
  · cases h1; exact h2
  · cases h1
theorem parquetlaw10_wakes.ent_ok (N : Nat) : TabOK1 Tryz.prog 9 (parquetlaw10_wakes.ent N) := by
  intro args bs a enc h
  simp only [parquetlaw10_wakes.ent] at h
  split at h
  · rename_i hz; have h0 := Option.some.inj h; have h1 := congrArg Prod.fst h0; have h2 := congrArg Prod.snd h0; dsimp only at h1 h2; subst h2; exact FnSpec.of_freeze hz (parquetlaw10_wakes.spec N a h1)
  · cases h
end Go.Proofs.YtbnoablfajmaeaaGreat
