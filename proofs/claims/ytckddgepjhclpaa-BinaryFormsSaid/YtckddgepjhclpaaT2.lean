-- The seat's functions as the evaluator goes through them: typed models and their laws.
import Derived.Test.YtckddgepjhclpaaProg
import Derived.Test.YtckddgepjhclpaaEvF
import Derived.KernelRfl
namespace Go.Proofs.Ytckddgepjhclpaa
open Go.Proofs.Ytckddgepjhclpaa.Ev
set_option linter.unusedVariables false
open Go
def str0 : ByteArray := ⟨#[0, 1, 2, 2, 3, 3, 3, 3, 4, 4, 4, 4, 4, 4, 4, 4, 5, 5, 5, 5, 5, 5, 5, 5, 5, 5, 5, 5, 5, 5, 5, 5, 6, 6, 6, 6, 6, 6, 6, 6, 6, 6, 6, 6, 6, 6, 6, 6, 6, 6, 6, 6, 6, 6, 6, 6, 6, 6, 6, 6, 6, 6, 6, 6, 7, 7, 7, 7, 7, 7, 7, 7, 7, 7, 7, 7, 7, 7, 7, 7, 7, 7, 7, 7, 7, 7, 7, 7, 7, 7, 7, 7, 7, 7, 7, 7, 7, 7, 7, 7, 7, 7, 7, 7, 7, 7, 7, 7, 7, 7, 7, 7, 7, 7, 7, 7, 7, 7, 7, 7, 7, 7, 7, 7, 7, 7, 7, 7, 8, 8, 8, 8, 8, 8, 8, 8, 8, 8, 8, 8, 8, 8, 8, 8, 8, 8, 8, 8, 8, 8, 8, 8, 8, 8, 8, 8, 8, 8, 8, 8, 8, 8, 8, 8, 8, 8, 8, 8, 8, 8, 8, 8, 8, 8, 8, 8, 8, 8, 8, 8, 8, 8, 8, 8, 8, 8, 8, 8, 8, 8, 8, 8, 8, 8, 8, 8, 8, 8, 8, 8, 8, 8, 8, 8, 8, 8, 8, 8, 8, 8, 8, 8, 8, 8, 8, 8, 8, 8, 8, 8, 8, 8, 8, 8, 8, 8, 8, 8, 8, 8, 8, 8, 8, 8, 8, 8, 8, 8, 8, 8, 8, 8, 8, 8, 8, 8, 8, 8, 8, 8, 8, 8, 8, 8, 8, 8]⟩
noncomputable def ty3 : TI := ⟨.int .i64, 1, 8, [.int .i64 0]⟩
noncomputable def ty5 : TI := ⟨.int .u8, 1, 1, [.int .u8 0]⟩
noncomputable def ty9 : TI := ⟨.str, 1, 16, [.string ByteArray.empty]⟩
noncomputable def ty54 : TI := ⟨.slice 107, 1, 24, [.slice none 0 0]⟩
noncomputable def ty56 : TI := ⟨.struct [(54, 0)], 1, 24, [.slice none 0 0]⟩
noncomputable def ty92 : TI := ⟨.int .u64, 1, 8, [.int .u64 0]⟩
noncomputable def ty107 : TI := ⟨.int .u32, 1, 4, [.int .u32 0]⟩
theorem Try_mixed : Try.prog.follows .mixedOrders = true := by kernel_rfl
theorem ty3_ok : TyOK1 Try.prog 3 ty3 := tyok_of (by kernel_rfl) (by kernel_rfl) (by kernel_rfl) (by kernel_rfl) (by kernel_rfl) (by kernel_rfl) (by kernel_rfl) (Try.underlying3) (by kernel_rfl)
theorem ty5_ok : TyOK1 Try.prog 5 ty5 := tyok_of (by kernel_rfl) (by kernel_rfl) (by kernel_rfl) (by kernel_rfl) (by kernel_rfl) (by kernel_rfl) (by kernel_rfl) (Try.underlying5) (by kernel_rfl)
theorem ty9_ok : TyOK1 Try.prog 9 ty9 := tyok_of (by kernel_rfl) (by kernel_rfl) (by kernel_rfl) (by kernel_rfl) (by kernel_rfl) (by kernel_rfl) (by kernel_rfl) (Try.underlying9) (by kernel_rfl)
theorem ty54_ok : TyOK1 Try.prog 54 ty54 := tyok_of (by kernel_rfl) (by kernel_rfl) (by kernel_rfl) (by kernel_rfl) (by kernel_rfl) (by kernel_rfl) (by kernel_rfl) (Try.underlying54) (by kernel_rfl)
theorem ty56_ok : TyOK1 Try.prog 56 ty56 := tyok_of (by kernel_rfl) (by kernel_rfl) (by kernel_rfl) (by kernel_rfl) (by kernel_rfl) (by kernel_rfl) (by kernel_rfl) (tk_struct Try.underlying56 (by kernel_rfl) (by kernel_rfl)) (by kernel_rfl)
theorem ty92_ok : TyOK1 Try.prog 92 ty92 := tyok_of (by kernel_rfl) (by kernel_rfl) (by kernel_rfl) (by kernel_rfl) (by kernel_rfl) (by kernel_rfl) (by kernel_rfl) (Try.underlying92) (by kernel_rfl)
theorem ty107_ok : TyOK1 Try.prog 107 ty107 := tyok_of (by kernel_rfl) (by kernel_rfl) (by kernel_rfl) (by kernel_rfl) (by kernel_rfl) (by kernel_rfl) (by kernel_rfl) (Try.underlying107) (by kernel_rfl)
/-! math/bits.Len32: function 85 -/
noncomputable def bits_Len32.f (N : Nat) (a1 : Int) : Option (Int) :=
  bif decide (a1 ≥ 65536) then
    bif decide ((Int.fdiv a1 (2 ^ 16)) ≥ 256) then
      bif (decide (0 ≤ (wu8 (Int.fdiv (Int.fdiv a1 (2 ^ 16)) (2 ^ 8))))) && (decide ((wu8 (Int.fdiv (Int.fdiv a1 (2 ^ 16)) (2 ^ 8))) < (str0.size : Int))) then
        some (wi64 (24 + (wi64 (byteAt str0 ((wu8 (Int.fdiv (Int.fdiv a1 (2 ^ 16)) (2 ^ 8))).toNat)))))
      else none
    else
    bif (decide (0 ≤ (wu8 (Int.fdiv a1 (2 ^ 16))))) && (decide ((wu8 (Int.fdiv a1 (2 ^ 16))) < (str0.size : Int))) then
      some (wi64 (16 + (wi64 (byteAt str0 ((wu8 (Int.fdiv a1 (2 ^ 16))).toNat)))))
    else none
  else
  bif decide (a1 ≥ 256) then
    bif (decide (0 ≤ (wu8 (Int.fdiv a1 (2 ^ 8))))) && (decide ((wu8 (Int.fdiv a1 (2 ^ 8))) < (str0.size : Int))) then
      some (wi64 (8 + (wi64 (byteAt str0 ((wu8 (Int.fdiv a1 (2 ^ 8))).toNat)))))
    else none
  else
  bif (decide (0 ≤ (wu8 a1))) && (decide ((wu8 a1) < (str0.size : Int))) then
    some (wi64 (0 + (wi64 (byteAt str0 ((wu8 a1).toNat)))))
  else none
noncomputable def bits_Len32.body : Code := (Try.f85.body).getD .skip
noncomputable def bits_Len32.ty : List (Nat × TI) := [(3, ty3), (5, ty5), (9, ty9), (107, ty107)]
noncomputable def bits_Len32.E (N : Nat) : Env := { ty := lookN bits_Len32.ty, tab := lookN [], hint := lookN [], cut := lookN [], N := N, res := [.tmp 2], rsh := [.any], nb := 0, ntmps := 19, own := false }
noncomputable def bits_Len32.dec (v : V) (bs : List Blk) : Option (Int) := match v, bs with
  | .c (.int .i64 z0), [] => some z0
  | _, _ => none
set_option maxRecDepth 100000 in
theorem bits_Len32.f_eq (N : Nat) (a1 : Int) :
    evFun (bits_Len32.E N) bits_Len32.body [.c (.int .u32 a1)] [] bits_Len32.dec = bits_Len32.f N a1 := by kernel_rfl
noncomputable def bits_Len32.ent (N : Nat) : Entry := { A := Int, fresh := 0, imm := [true], dec := fun args bs => match freezeL 0 (fun _ => .dead) [.any] args, bs with
  | some [.c (.int .u32 a1)], [] => some (bits_Len32.f N a1, fun r => .one (.c (.int .i64 r)) [])
  | _, _ => none }
theorem bits_Len32.env (N : Nat) : EnvOK Try.prog (bits_Len32.E N) := ⟨(TyOK.cons ty3_ok (TyOK.cons ty5_ok (TyOK.cons ty9_ok (TyOK.cons ty107_ok TyOK.nil)))), TabOK.nil⟩
theorem bits_Len32.res_eq (N : Nat) : (bits_Len32.E N).res = Try.f85.results.toList := by kernel_rfl
theorem bits_Len32.spec (N : Nat) (a1 : Int) (r : Int) (h : bits_Len32.f N a1 = some r) : FnSpec Try.prog 85 [.c (.int .u32 a1)] [] (.c (.int .i64 r)) ([]) := by
  rw [← bits_Len32.f_eq] at h
  obtain ⟨v, bs', h1, h2⟩ := evFun_ok (bits_Len32.env N) Try_mixed Try.func85 (by kernel_rfl : Try.f85.body = some bits_Len32.body) (by kernel_rfl) (bits_Len32.res_eq N) (by kernel_rfl) (by kernel_rfl) (Nat.le_of_ble_eq_true (by kernel_rfl)) (AllCut.of (l := []) (by kernel_rfl) AllCut.nil) h
  unfold bits_Len32.dec at h1; split at h1
  · cases h1; exact h2
  · cases h1
theorem bits_Len32.ent_ok (N : Nat) : TabOK1 Try.prog 85 (bits_Len32.ent N) := by
  intro args bs a enc h
  simp only [bits_Len32.ent] at h
  split at h
  · rename_i hz; have h0 := Option.some.inj h; have h1 := congrArg Prod.fst h0; have h2 := congrArg Prod.snd h0; dsimp only at h1 h2; subst h2; exact FnSpec.of_freeze hz (bits_Len32.spec N _ a h1)
  · cases h
/-! math/bits.Sub32: function 86 -/
noncomputable def bits_Sub32.f (N : Nat) (a1 : Int) (a2 : Int) (a3 : Int) : Option (Int × Int) :=
  some (wu32 ((wu32 (a1 - a2)) - a3), Int.fdiv (bit_or .u32 (bit_and .u32 (bit_xor .u32 4294967295 a1) a2) (bit_and .u32 (bit_xor .u32 4294967295 (bit_xor .u32 a1 a2)) (wu32 ((wu32 (a1 - a2)) - a3)))) (2 ^ 31))
noncomputable def bits_Sub32.body : Code := (Try.f86.body).getD .skip
noncomputable def bits_Sub32.ty : List (Nat × TI) := []
noncomputable def bits_Sub32.E (N : Nat) : Env := { ty := lookN bits_Sub32.ty, tab := lookN [], hint := lookN [], cut := lookN [], N := N, res := [.tmp 6, .tmp 7], rsh := [.any, .any], nb := 0, ntmps := 25, own := false }
noncomputable def bits_Sub32.dec (v : V) (bs : List Blk) : Option (Int × Int) := match v, bs with
  | .tup [.c (.int .u32 z0), .c (.int .u32 z1)], [] => some (z0, z1)
  | _, _ => none
set_option maxRecDepth 100000 in
theorem bits_Sub32.f_eq (N : Nat) (a1 : Int) (a2 : Int) (a3 : Int) :
    evFun (bits_Sub32.E N) bits_Sub32.body [.c (.int .u32 a1), .c (.int .u32 a2), .c (.int .u32 a3)] [] bits_Sub32.dec = bits_Sub32.f N a1 a2 a3 := by kernel_rfl
noncomputable def bits_Sub32.ent (N : Nat) : Entry := { A := Int × Int, fresh := 0, imm := [true, true, true], dec := fun args bs => match freezeL 0 (fun _ => .dead) [.any, .any, .any] args, bs with
  | some [.c (.int .u32 a1), .c (.int .u32 a2), .c (.int .u32 a3)], [] => some (bits_Sub32.f N a1 a2 a3, fun r => .one (.tup [.c (.int .u32 r.1), .c (.int .u32 r.2)]) [])
  | _, _ => none }
theorem bits_Sub32.env (N : Nat) : EnvOK Try.prog (bits_Sub32.E N) := ⟨TyOK.nil, TabOK.nil⟩
theorem bits_Sub32.res_eq (N : Nat) : (bits_Sub32.E N).res = Try.f86.results.toList := by kernel_rfl
theorem bits_Sub32.spec (N : Nat) (a1 : Int) (a2 : Int) (a3 : Int) (r : Int × Int) (h : bits_Sub32.f N a1 a2 a3 = some r) : FnSpec Try.prog 86 [.c (.int .u32 a1), .c (.int .u32 a2), .c (.int .u32 a3)] [] (.tup [.c (.int .u32 r.1), .c (.int .u32 r.2)]) ([]) := by
  rw [← bits_Sub32.f_eq] at h
  obtain ⟨v, bs', h1, h2⟩ := evFun_ok (bits_Sub32.env N) Try_mixed Try.func86 (by kernel_rfl : Try.f86.body = some bits_Sub32.body) (by kernel_rfl) (bits_Sub32.res_eq N) (by kernel_rfl) (by kernel_rfl) (Nat.le_of_ble_eq_true (by kernel_rfl)) (AllCut.of (l := []) (by kernel_rfl) AllCut.nil) h
  unfold bits_Sub32.dec at h1; split at h1
  · cases h1; exact h2
  · cases h1
theorem bits_Sub32.ent_ok (N : Nat) : TabOK1 Try.prog 86 (bits_Sub32.ent N) := by
  intro args bs a enc h
  simp only [bits_Sub32.ent] at h
  split at h
  · rename_i hz; have h0 := Option.some.inj h; have h1 := congrArg Prod.fst h0; have h2 := congrArg Prod.snd h0; dsimp only at h1 h2; subst h2; exact FnSpec.of_freeze hz (bits_Sub32.spec N _ _ _ a h1)
  · cases h
/-! parquet/nat.cut: function 74 -/
noncomputable def nat_cut.l2 {R : Type} (N : Nat) : Nat → Nat → Nat → Int → List Int → (Nat → Nat → Int → List Int → Option R) → Option R
  | 0, _, _, _, _, _ => none
  | n + 1, x4, x5, x6, x7, k0 =>
    bif decide (x6 > 0) then
      bif (decide (0 ≤ (wi64 (x6 - 1)))) && (decide ((wi64 (x6 - 1)) < (x5 : Int))) then
        bif (x7.getD (x4 + ((wi64 (x6 - 1)).toNat)) 0) == 0 then
          nat_cut.l2 N n x4 x5 (wi64 (x6 - 1)) x7 k0
        else
        k0 x4 x5 x6 x7
      else none
    else
    k0 x4 x5 x6 x7
noncomputable def nat_cut.f (N : Nat) (a1 : Nat) (a2 : Nat) (a3 : List Int) : Option (Nat × Nat × List Int) :=
  nat_cut.l2 N N a1 a2 (a2 : Int) a3
    (fun y12 y13 y14 y15 =>
      bif ((decide (0 ≤ y14)) && (decide (y14 ≤ y14))) && (decide (y14 ≤ (y13 : Int))) then
        some (y12, y14.toNat, y15)
      else none)
noncomputable def nat_cut.body : Code := (Try.f74.body).getD .skip
noncomputable def nat_cut.ty : List (Nat × TI) := [(54, ty54), (56, ty56), (107, ty107)]
noncomputable def nat_cut.h2 : Hint := ⟨[(0, .any), (2, .box [.any]), (3, .any)], [(0, .any), (2, .box [.any]), (3, .any)]⟩
noncomputable def nat_cut.c2 (N : Nat) : Cut := ⟨fun vs H k => match vs, H with
  | [.sl 0 1 x4 x5, .ptr 1 0 1, .c (.int .i64 x6)], [.ints .u32 x7, .vals [.c (.slice none 0 0)]] => nat_cut.l2 N N x4 x5 x6 x7 (fun x8 x9 x10 x11 => k (.exit 0) ⟨mkT nat_cut.h2.out [.sl 0 1 x8 x9, .ptr 1 0 1, .c (.int .i64 x10)], [.ints .u32 x11, .vals [.c (.slice none 0 0)]]⟩)
  | _, _ => none⟩
noncomputable def nat_cut.E (N : Nat) : Env := { ty := lookN nat_cut.ty, tab := lookN [], hint := lookN [(2, nat_cut.h2)], cut := lookN [(2, nat_cut.c2 N)], N := N, res := [.cell 2 56], rsh := [.recd [.any]], nb := 1, ntmps := 23, own := false }
noncomputable def nat_cut.b2 : Code := inner ((subLoops nat_cut.body).getD 0 .skip)
set_option maxRecDepth 100000 in
theorem nat_cut.l2_eq {R : Type} (N n : Nat) (x4 : Nat) (x5 : Nat) (x6 : Int) (x7 : List Int) (k : Ex → St → Option R) :
    evLoop 1 nat_cut.h2 (fun s k => evCode (nat_cut.E N) 395 nat_cut.b2 s k) n [.sl 0 1 x4 x5, .ptr 1 0 1, .c (.int .i64 x6)] [.ints .u32 x7, .vals [.c (.slice none 0 0)]] k = nat_cut.l2 N n x4 x5 x6 x7 (fun x8 x9 x10 x11 => k (.exit 0) ⟨mkT nat_cut.h2.out [.sl 0 1 x8 x9, .ptr 1 0 1, .c (.int .i64 x10)], [.ints .u32 x11, .vals [.c (.slice none 0 0)]]⟩) := by
  induction n generalizing x4 x5 x6 x7 with
  | zero => kernel_rfl
  | succ n ih =>
    simp only [nat_cut.l2, ← ih]
    kernel_rfl
noncomputable def nat_cut.dec (v : V) (bs : List Blk) : Option (Nat × Nat × List Int) := match v, bs with
  | .agg [.sl 0 1 z0 z1], [.ints .u32 z2] => some (z0, z1, z2)
  | _, _ => none
set_option maxRecDepth 100000 in
theorem nat_cut.f_eq (N : Nat) (a1 : Nat) (a2 : Nat) (a3 : List Int) :
    evFun (nat_cut.E N) nat_cut.body [.sl 0 1 a1 a2] [.ints .u32 a3] nat_cut.dec = nat_cut.f N a1 a2 a3 := by kernel_rfl
noncomputable def nat_cut.ent (N : Nat) : Entry := { A := Nat × Nat × List Int, fresh := 0, imm := [false], dec := fun args bs => match asSlL (blkAt bs) [true] args, bs with
  | [.sl 0 1 a1 a2], [.ints .u32 a3] => some (nat_cut.f N a1 a2 a3, fun r => .one (.agg [.sl 0 1 r.1 r.2.1]) [.ints .u32 r.2.2])
  | _, _ => none }
theorem nat_cut.env (N : Nat) : EnvOK Try.prog (nat_cut.E N) := ⟨(TyOK.cons ty54_ok (TyOK.cons ty56_ok (TyOK.cons ty107_ok TyOK.nil))), TabOK.nil⟩
theorem nat_cut.res_eq (N : Nat) : (nat_cut.E N).res = Try.f74.results.toList := by kernel_rfl
theorem nat_cut.k2 (N : Nat) : CutOK Try.prog Try.f74 (nat_cut.E N) (.loop nat_cut.b2) := by
  intro e hd he hh R vs H k r h
  have e1 : (nat_cut.E N).cut (loopKey nat_cut.b2) = some (nat_cut.c2 N) := by kernel_rfl
  have e2 : (nat_cut.E N).hint (loopKey nat_cut.b2) = some nat_cut.h2 := by kernel_rfl
  rw [e1] at he; rw [e2] at hh; cases he; cases hh
  unfold nat_cut.c2 at h; dsimp only at h
  split at h
  · rw [← nat_cut.l2_eq] at h
    exact loop_ok (evCode_ok (nat_cut.env N) Try_mixed (nat_cut.res_eq N) 395 nat_cut.b2 (AllCut.of (l := []) (by kernel_rfl) AllCut.nil)) h
  · cases h
theorem nat_cut.spec (N : Nat) (a1 : Nat) (a2 : Nat) (a3 : List Int) (r : Nat × Nat × List Int) (h : nat_cut.f N a1 a2 a3 = some r) : FnSpec Try.prog 74 [.sl 0 1 a1 a2] [.ints .u32 a3] (.agg [.sl 0 1 r.1 r.2.1]) ([.ints .u32 r.2.2]) := by
  rw [← nat_cut.f_eq] at h
  obtain ⟨v, bs', h1, h2⟩ := evFun_ok (nat_cut.env N) Try_mixed Try.func74 (by kernel_rfl : Try.f74.body = some nat_cut.body) (by kernel_rfl) (nat_cut.res_eq N) (by kernel_rfl) (by kernel_rfl) (Nat.le_of_ble_eq_true (by kernel_rfl)) (AllCut.of (l := [(.loop (inner ((subLoops nat_cut.body).getD 0 .skip)))]) (by kernel_rfl) (AllCut.cons (nat_cut.k2 N) AllCut.nil)) h
  unfold nat_cut.dec at h1; split at h1
  · cases h1; exact h2
  · cases h1
theorem nat_cut.ent_ok (N : Nat) : TabOK1 Try.prog 74 (nat_cut.ent N) := by
  intro args bs a enc h
  simp only [nat_cut.ent] at h
  split at h
  · rename_i hz; have h0 := Option.some.inj h; have h1 := congrArg Prod.fst h0; have h2 := congrArg Prod.snd h0; dsimp only at h1 h2; subst h2; exact FnSpec.of_asSl (fl := [true]) (by rw [hz]; exact nat_cut.spec N _ _ _ a h1)
  · cases h
/-! (parquet/nat.Nat).Bits: function 73 -/
noncomputable def nat_Nat_Bits.f (N : Nat) (a1 : List Int) : Option (Int) :=
  bif (a1.length : Int) == 0 then
    some 0
  else
  bif (decide (0 ≤ (wi64 ((a1.length : Int) - 1)))) && (decide ((wi64 ((a1.length : Int) - 1)) < (a1.length : Int))) then
    (bits_Len32.f N (a1.getD ((wi64 ((a1.length : Int) - 1)).toNat) 0)).bind fun r2 =>
    some (wi64 ((wi64 (32 * (wi64 ((a1.length : Int) - 1)))) + r2))
  else none
noncomputable def nat_Nat_Bits.body : Code := (Try.f73.body).getD .skip
noncomputable def nat_Nat_Bits.ty : List (Nat × TI) := [(54, ty54), (56, ty56), (107, ty107)]
noncomputable def nat_Nat_Bits.E (N : Nat) : Env := { ty := lookN nat_Nat_Bits.ty, tab := lookN [(85, bits_Len32.ent N)], hint := lookN [], cut := lookN [], N := N, res := [.tmp 2], rsh := [.any], nb := 0, ntmps := 22, own := false }
noncomputable def nat_Nat_Bits.dec (v : V) (bs : List Blk) : Option (Int) := match v, bs with
  | .c (.int .i64 z0), [] => some z0
  | _, _ => none
set_option maxRecDepth 100000 in
theorem nat_Nat_Bits.f_eq (N : Nat) (a1 : List Int) :
    evFun (nat_Nat_Bits.E N) nat_Nat_Bits.body [.agg [.il .u32 1 a1]] [] nat_Nat_Bits.dec = nat_Nat_Bits.f N a1 := by kernel_rfl
noncomputable def nat_Nat_Bits.ent (N : Nat) : Entry := { A := Int, fresh := 0, imm := [true], dec := fun args bs => match freezeL 0 (fun _ => .dead) [.recd [.il .u32 1]] args, bs with
  | some [.agg [.il .u32 1 a1]], [] => some (nat_Nat_Bits.f N a1, fun r => .one (.c (.int .i64 r)) [])
  | _, _ => none }
theorem nat_Nat_Bits.env (N : Nat) : EnvOK Try.prog (nat_Nat_Bits.E N) := ⟨(TyOK.cons ty54_ok (TyOK.cons ty56_ok (TyOK.cons ty107_ok TyOK.nil))), (TabOK.cons (bits_Len32.ent_ok N) TabOK.nil)⟩
theorem nat_Nat_Bits.res_eq (N : Nat) : (nat_Nat_Bits.E N).res = Try.f73.results.toList := by kernel_rfl
theorem nat_Nat_Bits.spec (N : Nat) (a1 : List Int) (r : Int) (h : nat_Nat_Bits.f N a1 = some r) : FnSpec Try.prog 73 [.agg [.il .u32 1 a1]] [] (.c (.int .i64 r)) ([]) := by
  rw [← nat_Nat_Bits.f_eq] at h
  obtain ⟨v, bs', h1, h2⟩ := evFun_ok (nat_Nat_Bits.env N) Try_mixed Try.func73 (by kernel_rfl : Try.f73.body = some nat_Nat_Bits.body) (by kernel_rfl) (nat_Nat_Bits.res_eq N) (by kernel_rfl) (by kernel_rfl) (Nat.le_of_ble_eq_true (by kernel_rfl)) (AllCut.of (l := []) (by kernel_rfl) AllCut.nil) h
  unfold nat_Nat_Bits.dec at h1; split at h1
  · cases h1; exact h2
  · cases h1
theorem nat_Nat_Bits.ent_ok (N : Nat) : TabOK1 Try.prog 73 (nat_Nat_Bits.ent N) := by
  intro args bs a enc h
  simp only [nat_Nat_Bits.ent] at h
  split at h
  · rename_i hz; have h0 := Option.some.inj h; have h1 := congrArg Prod.fst h0; have h2 := congrArg Prod.snd h0; dsimp only at h1 h2; subst h2; exact FnSpec.of_freeze hz (nat_Nat_Bits.spec N _ a h1)
  · cases h
/-! (parquet/nat.Nat).fits: function 75 -/
noncomputable def nat_Nat_fits.f (N : Nat) (a1 : List Int) : Option (List Int × Int) :=
  (nat_Nat_Bits.f N a1).bind fun r2 =>
  bif decide (r2 > 4096) then
    some ([], 3)
  else
  some (a1, 0)
noncomputable def nat_Nat_fits.body : Code := (Try.f75.body).getD .skip
noncomputable def nat_Nat_fits.ty : List (Nat × TI) := [(54, ty54), (56, ty56)]
noncomputable def nat_Nat_fits.E (N : Nat) : Env := { ty := lookN nat_Nat_fits.ty, tab := lookN [(73, nat_Nat_Bits.ent N)], hint := lookN [], cut := lookN [], N := N, res := [.cell 2 56, .tmp 3], rsh := [.recd [.il .u32 1], .any], nb := 0, ntmps := 9, own := false }
noncomputable def nat_Nat_fits.dec (v : V) (bs : List Blk) : Option (List Int × Int) := match v, bs with
  | .tup [.agg [.il .u32 1 z0], .c (.int .i64 z1)], [] => some (z0, z1)
  | _, _ => none
set_option maxRecDepth 100000 in
theorem nat_Nat_fits.f_eq (N : Nat) (a1 : List Int) :
    evFun (nat_Nat_fits.E N) nat_Nat_fits.body [.agg [.il .u32 1 a1]] [] nat_Nat_fits.dec = nat_Nat_fits.f N a1 := by kernel_rfl
noncomputable def nat_Nat_fits.ent (N : Nat) : Entry := { A := List Int × Int, fresh := 0, imm := [true], dec := fun args bs => match freezeL 0 (fun _ => .dead) [.recd [.il .u32 1]] args, bs with
  | some [.agg [.il .u32 1 a1]], [] => some (nat_Nat_fits.f N a1, fun r => .one (.tup [.agg [.il .u32 1 r.1], .c (.int .i64 r.2)]) [])
  | _, _ => none }
theorem nat_Nat_fits.env (N : Nat) : EnvOK Try.prog (nat_Nat_fits.E N) := ⟨(TyOK.cons ty54_ok (TyOK.cons ty56_ok TyOK.nil)), (TabOK.cons (nat_Nat_Bits.ent_ok N) TabOK.nil)⟩
theorem nat_Nat_fits.res_eq (N : Nat) : (nat_Nat_fits.E N).res = Try.f75.results.toList := by kernel_rfl
theorem nat_Nat_fits.spec (N : Nat) (a1 : List Int) (r : List Int × Int) (h : nat_Nat_fits.f N a1 = some r) : FnSpec Try.prog 75 [.agg [.il .u32 1 a1]] [] (.tup [.agg [.il .u32 1 r.1], .c (.int .i64 r.2)]) ([]) := by
  rw [← nat_Nat_fits.f_eq] at h
  obtain ⟨v, bs', h1, h2⟩ := evFun_ok (nat_Nat_fits.env N) Try_mixed Try.func75 (by kernel_rfl : Try.f75.body = some nat_Nat_fits.body) (by kernel_rfl) (nat_Nat_fits.res_eq N) (by kernel_rfl) (by kernel_rfl) (Nat.le_of_ble_eq_true (by kernel_rfl)) (AllCut.of (l := []) (by kernel_rfl) AllCut.nil) h
  unfold nat_Nat_fits.dec at h1; split at h1
  · cases h1; exact h2
  · cases h1
theorem nat_Nat_fits.ent_ok (N : Nat) : TabOK1 Try.prog 75 (nat_Nat_fits.ent N) := by
  intro args bs a enc h
  simp only [nat_Nat_fits.ent] at h
  split at h
  · rename_i hz; have h0 := Option.some.inj h; have h1 := congrArg Prod.fst h0; have h2 := congrArg Prod.snd h0; dsimp only at h1 h2; subst h2; exact FnSpec.of_freeze hz (nat_Nat_fits.spec N _ a h1)
  · cases h
/-! parquet/nat.Of: function 58 -/
noncomputable def nat_Of.f (N : Nat) (a1 : Int) : Option (List Int) :=
  (nat_cut.f N 0 2 [wu32 a1, wu32 (Int.fdiv a1 (2 ^ 32))]).bind fun r2 =>
  some ((r2.2.2.drop r2.1).take r2.2.1)
noncomputable def nat_Of.body : Code := (Try.f58.body).getD .skip
noncomputable def nat_Of.ty : List (Nat × TI) := [(54, ty54), (56, ty56), (92, ty92), (107, ty107)]
noncomputable def nat_Of.E (N : Nat) : Env := { ty := lookN nat_Of.ty, tab := lookN [(74, nat_cut.ent N)], hint := lookN [], cut := lookN [], N := N, res := [.cell 2 56], rsh := [.recd [.il .u32 1]], nb := 0, ntmps := 10, own := false }
noncomputable def nat_Of.dec (v : V) (bs : List Blk) : Option (List Int) := match v, bs with
  | .agg [.il .u32 1 z0], [] => some z0
  | _, _ => none
set_option maxRecDepth 100000 in
theorem nat_Of.f_eq (N : Nat) (a1 : Int) :
    evFun (nat_Of.E N) nat_Of.body [.c (.int .u64 a1)] [] nat_Of.dec = nat_Of.f N a1 := by kernel_rfl
noncomputable def nat_Of.ent (N : Nat) : Entry := { A := List Int, fresh := 0, imm := [true], dec := fun args bs => match freezeL 0 (fun _ => .dead) [.any] args, bs with
  | some [.c (.int .u64 a1)], [] => some (nat_Of.f N a1, fun r => .one (.agg [.il .u32 1 r]) [])
  | _, _ => none }
theorem nat_Of.env (N : Nat) : EnvOK Try.prog (nat_Of.E N) := ⟨(TyOK.cons ty54_ok (TyOK.cons ty56_ok (TyOK.cons ty92_ok (TyOK.cons ty107_ok TyOK.nil)))), (TabOK.cons (nat_cut.ent_ok N) TabOK.nil)⟩
theorem nat_Of.res_eq (N : Nat) : (nat_Of.E N).res = Try.f58.results.toList := by kernel_rfl
theorem nat_Of.spec (N : Nat) (a1 : Int) (r : List Int) (h : nat_Of.f N a1 = some r) : FnSpec Try.prog 58 [.c (.int .u64 a1)] [] (.agg [.il .u32 1 r]) ([]) := by
  rw [← nat_Of.f_eq] at h
  obtain ⟨v, bs', h1, h2⟩ := evFun_ok (nat_Of.env N) Try_mixed Try.func58 (by kernel_rfl : Try.f58.body = some nat_Of.body) (by kernel_rfl) (nat_Of.res_eq N) (by kernel_rfl) (by kernel_rfl) (Nat.le_of_ble_eq_true (by kernel_rfl)) (AllCut.of (l := []) (by kernel_rfl) AllCut.nil) h
  unfold nat_Of.dec at h1; split at h1
  · cases h1; exact h2
  · cases h1
theorem nat_Of.ent_ok (N : Nat) : TabOK1 Try.prog 58 (nat_Of.ent N) := by
  intro args bs a enc h
  simp only [nat_Of.ent] at h
  split at h
  · rename_i hz; have h0 := Option.some.inj h; have h1 := congrArg Prod.fst h0; have h2 := congrArg Prod.snd h0; dsimp only at h1 h2; subst h2; exact FnSpec.of_freeze hz (nat_Of.spec N _ a h1)
  · cases h
/-! (parquet/nat.Nat).Uint64: function 57 -/
noncomputable def nat_Nat_Uint64.f (N : Nat) (a1 : List Int) : Option (Int × Bool) :=
  bif (a1.length : Int) == 0 then
    some (0, true)
  else
  bif (a1.length : Int) == 1 then
    bif decide (0 < (a1.length : Int)) then
      some (wu64 (a1.getD 0 0), true)
    else none
  else
  bif (a1.length : Int) == 2 then
    bif decide (1 < (a1.length : Int)) then
      bif decide (0 < (a1.length : Int)) then
        some (bit_or .u64 (wu64 ((wu64 (a1.getD 1 0)) * 2 ^ 32)) (wu64 (a1.getD 0 0)), true)
      else none
    else none
  else
  some (0, false)
noncomputable def nat_Nat_Uint64.body : Code := (Try.f57.body).getD .skip
noncomputable def nat_Nat_Uint64.ty : List (Nat × TI) := [(54, ty54), (56, ty56), (92, ty92), (107, ty107)]
noncomputable def nat_Nat_Uint64.E (N : Nat) : Env := { ty := lookN nat_Nat_Uint64.ty, tab := lookN [], hint := lookN [], cut := lookN [], N := N, res := [.tmp 2, .tmp 3], rsh := [.any, .any], nb := 0, ntmps := 30, own := false }
noncomputable def nat_Nat_Uint64.dec (v : V) (bs : List Blk) : Option (Int × Bool) := match v, bs with
  | .tup [.c (.int .u64 z0), .c (.bool z1)], [] => some (z0, z1)
  | _, _ => none
set_option maxRecDepth 100000 in
theorem nat_Nat_Uint64.f_eq (N : Nat) (a1 : List Int) :
    evFun (nat_Nat_Uint64.E N) nat_Nat_Uint64.body [.agg [.il .u32 1 a1]] [] nat_Nat_Uint64.dec = nat_Nat_Uint64.f N a1 := by kernel_rfl
noncomputable def nat_Nat_Uint64.ent (N : Nat) : Entry := { A := Int × Bool, fresh := 0, imm := [true], dec := fun args bs => match freezeL 0 (fun _ => .dead) [.recd [.il .u32 1]] args, bs with
  | some [.agg [.il .u32 1 a1]], [] => some (nat_Nat_Uint64.f N a1, fun r => .one (.tup [.c (.int .u64 r.1), .c (.bool r.2)]) [])
  | _, _ => none }
theorem nat_Nat_Uint64.env (N : Nat) : EnvOK Try.prog (nat_Nat_Uint64.E N) := ⟨(TyOK.cons ty54_ok (TyOK.cons ty56_ok (TyOK.cons ty92_ok (TyOK.cons ty107_ok TyOK.nil)))), TabOK.nil⟩
theorem nat_Nat_Uint64.res_eq (N : Nat) : (nat_Nat_Uint64.E N).res = Try.f57.results.toList := by kernel_rfl
theorem nat_Nat_Uint64.spec (N : Nat) (a1 : List Int) (r : Int × Bool) (h : nat_Nat_Uint64.f N a1 = some r) : FnSpec Try.prog 57 [.agg [.il .u32 1 a1]] [] (.tup [.c (.int .u64 r.1), .c (.bool r.2)]) ([]) := by
  rw [← nat_Nat_Uint64.f_eq] at h
  obtain ⟨v, bs', h1, h2⟩ := evFun_ok (nat_Nat_Uint64.env N) Try_mixed Try.func57 (by kernel_rfl : Try.f57.body = some nat_Nat_Uint64.body) (by kernel_rfl) (nat_Nat_Uint64.res_eq N) (by kernel_rfl) (by kernel_rfl) (Nat.le_of_ble_eq_true (by kernel_rfl)) (AllCut.of (l := []) (by kernel_rfl) AllCut.nil) h
  unfold nat_Nat_Uint64.dec at h1; split at h1
  · cases h1; exact h2
  · cases h1
theorem nat_Nat_Uint64.ent_ok (N : Nat) : TabOK1 Try.prog 57 (nat_Nat_Uint64.ent N) := by
  intro args bs a enc h
  simp only [nat_Nat_Uint64.ent] at h
  split at h
  · rename_i hz; have h0 := Option.some.inj h; have h1 := congrArg Prod.fst h0; have h2 := congrArg Prod.snd h0; dsimp only at h1 h2; subst h2; exact FnSpec.of_freeze hz (nat_Nat_Uint64.spec N _ a h1)
  · cases h
/-! parquet/nat.Cmp: function 55 -/
noncomputable def nat_Cmp.l6 {R : Type} (N : Nat) : Nat → Int → List Int → List Int → (Unit → Option R) → (Int → Option R) → Option R
  | 0, _, _, _, _, _ => none
  | n + 1, x3, x4, x5, k0, kr =>
    bif decide (x3 ≥ 0) then
      bif (decide (0 ≤ x3)) && (decide (x3 < (x4.length : Int))) then
        bif (decide (0 ≤ x3)) && (decide (x3 < (x5.length : Int))) then
          bif decide ((x4.getD x3.toNat 0) < (x5.getD x3.toNat 0)) then
            kr (-1)
          else
          bif (decide (0 ≤ x3)) && (decide (x3 < (x4.length : Int))) then
            bif (decide (0 ≤ x3)) && (decide (x3 < (x5.length : Int))) then
              bif decide ((x4.getD x3.toNat 0) > (x5.getD x3.toNat 0)) then
                kr 1
              else
              nat_Cmp.l6 N n (wi64 (x3 - 1)) x4 x5 k0 kr
            else none
          else none
        else none
      else none
    else
    k0 ()
noncomputable def nat_Cmp.f (N : Nat) (a1 : List Int) (a2 : List Int) : Option (Int) :=
  bif (a1.length : Int) != (a2.length : Int) then
    bif decide ((a1.length : Int) < (a2.length : Int)) then
      some (-1)
    else
    some 1
  else
  nat_Cmp.l6 N N (wi64 ((a1.length : Int) - 1)) a1 a2
    (fun (_ : Unit) =>
      some 0)
    (fun y7 =>
      some y7)
noncomputable def nat_Cmp.body : Code := (Try.f55.body).getD .skip
noncomputable def nat_Cmp.ty : List (Nat × TI) := [(54, ty54), (56, ty56), (107, ty107)]
noncomputable def nat_Cmp.h6 : Hint := ⟨[(2, .box [.il .u32 1]), (3, .box [.il .u32 1]), (5, .any)], []⟩
noncomputable def nat_Cmp.c6 (N : Nat) : Cut := ⟨fun vs H k => match vs, H with
  | [.ptr 0 0 1, .ptr 1 0 1, .c (.int .i64 x3)], [.vals [.il .u32 1 x4], .vals [.il .u32 1 x5]] => nat_Cmp.l6 N N x3 x4 x5 (fun (_ : Unit) => k (.exit 0) ⟨mkT nat_Cmp.h6.out [], []⟩) (fun x6 => k (.ret (.c (.int .i64 x6)) []) .nil)
  | _, _ => none⟩
noncomputable def nat_Cmp.E (N : Nat) : Env := { ty := lookN nat_Cmp.ty, tab := lookN [], hint := lookN [(6, nat_Cmp.h6)], cut := lookN [(6, nat_Cmp.c6 N)], N := N, res := [.tmp 4], rsh := [.any], nb := 0, ntmps := 52, own := false }
noncomputable def nat_Cmp.b6 : Code := inner ((subLoops nat_Cmp.body).getD 0 .skip)
set_option maxRecDepth 100000 in
theorem nat_Cmp.l6_eq {R : Type} (N n : Nat) (x3 : Int) (x4 : List Int) (x5 : List Int) (k : Ex → St → Option R) :
    evLoop 0 nat_Cmp.h6 (fun s k => evCode (nat_Cmp.E N) 394 nat_Cmp.b6 s k) n [.ptr 0 0 1, .ptr 1 0 1, .c (.int .i64 x3)] [.vals [.il .u32 1 x4], .vals [.il .u32 1 x5]] k = nat_Cmp.l6 N n x3 x4 x5 (fun (_ : Unit) => k (.exit 0) ⟨mkT nat_Cmp.h6.out [], []⟩) (fun x6 => k (.ret (.c (.int .i64 x6)) []) .nil) := by
  induction n generalizing x3 x4 x5 with
  | zero => kernel_rfl
  | succ n ih =>
    simp only [nat_Cmp.l6, ← ih]
    kernel_rfl
noncomputable def nat_Cmp.dec (v : V) (bs : List Blk) : Option (Int) := match v, bs with
  | .c (.int .i64 z0), [] => some z0
  | _, _ => none
set_option maxRecDepth 100000 in
theorem nat_Cmp.f_eq (N : Nat) (a1 : List Int) (a2 : List Int) :
    evFun (nat_Cmp.E N) nat_Cmp.body [.agg [.il .u32 1 a1], .agg [.il .u32 1 a2]] [] nat_Cmp.dec = nat_Cmp.f N a1 a2 := by kernel_rfl
noncomputable def nat_Cmp.ent (N : Nat) : Entry := { A := Int, fresh := 0, imm := [true, true], dec := fun args bs => match freezeL 0 (fun _ => .dead) [.recd [.il .u32 1], .recd [.il .u32 1]] args, bs with
  | some [.agg [.il .u32 1 a1], .agg [.il .u32 1 a2]], [] => some (nat_Cmp.f N a1 a2, fun r => .one (.c (.int .i64 r)) [])
  | _, _ => none }
theorem nat_Cmp.env (N : Nat) : EnvOK Try.prog (nat_Cmp.E N) := ⟨(TyOK.cons ty54_ok (TyOK.cons ty56_ok (TyOK.cons ty107_ok TyOK.nil))), TabOK.nil⟩
theorem nat_Cmp.res_eq (N : Nat) : (nat_Cmp.E N).res = Try.f55.results.toList := by kernel_rfl
theorem nat_Cmp.k6 (N : Nat) : CutOK Try.prog Try.f55 (nat_Cmp.E N) (.loop nat_Cmp.b6) := by
  intro e hd he hh R vs H k r h
  have e1 : (nat_Cmp.E N).cut (loopKey nat_Cmp.b6) = some (nat_Cmp.c6 N) := by kernel_rfl
  have e2 : (nat_Cmp.E N).hint (loopKey nat_Cmp.b6) = some nat_Cmp.h6 := by kernel_rfl
  rw [e1] at he; rw [e2] at hh; cases he; cases hh
  unfold nat_Cmp.c6 at h; dsimp only at h
  split at h
  · rw [← nat_Cmp.l6_eq] at h
    exact loop_ok (evCode_ok (nat_Cmp.env N) Try_mixed (nat_Cmp.res_eq N) 394 nat_Cmp.b6 (AllCut.of (l := []) (by kernel_rfl) AllCut.nil)) h
  · cases h
theorem nat_Cmp.spec (N : Nat) (a1 : List Int) (a2 : List Int) (r : Int) (h : nat_Cmp.f N a1 a2 = some r) : FnSpec Try.prog 55 [.agg [.il .u32 1 a1], .agg [.il .u32 1 a2]] [] (.c (.int .i64 r)) ([]) := by
  rw [← nat_Cmp.f_eq] at h
  obtain ⟨v, bs', h1, h2⟩ := evFun_ok (nat_Cmp.env N) Try_mixed Try.func55 (by kernel_rfl : Try.f55.body = some nat_Cmp.body) (by kernel_rfl) (nat_Cmp.res_eq N) (by kernel_rfl) (by kernel_rfl) (Nat.le_of_ble_eq_true (by kernel_rfl)) (AllCut.of (l := [(.loop (inner ((subLoops nat_Cmp.body).getD 0 .skip)))]) (by kernel_rfl) (AllCut.cons (nat_Cmp.k6 N) AllCut.nil)) h
  unfold nat_Cmp.dec at h1; split at h1
  · cases h1; exact h2
  · cases h1
theorem nat_Cmp.ent_ok (N : Nat) : TabOK1 Try.prog 55 (nat_Cmp.ent N) := by
  intro args bs a enc h
  simp only [nat_Cmp.ent] at h
  split at h
  · rename_i hz; have h0 := Option.some.inj h; have h1 := congrArg Prod.fst h0; have h2 := congrArg Prod.snd h0; dsimp only at h1 h2; subst h2; exact FnSpec.of_freeze hz (nat_Cmp.spec N _ _ a h1)
  · cases h
/-! parquet/nat.Add: function 54 -/
noncomputable def nat_Add.l7 {R : Type} (N : Nat) : Nat → Int → Int → Int → List Int → List Int → (List Int → Option R) → Option R
  | 0, _, _, _, _, _, _ => none
  | n + 1, x3, x4, x5, x6, x7, k0 =>
    bif decide (x5 < x4) then
      bif (decide (0 ≤ x5)) && (decide (x5 < (x7.length : Int))) then
        bif decide (x5 < (x6.length : Int)) then
          bif (decide (0 ≤ x5)) && (decide (x5 < (x6.length : Int))) then
            bif (decide (0 ≤ x5)) && (decide (x5 < (x7.length : Int))) then
              nat_Add.l7 N n (Int.fdiv (wu64 ((wu64 (x3 + (wu64 (x7.getD x5.toNat 0)))) + (wu64 (x6.getD x5.toNat 0)))) (2 ^ 32)) x4 (wi64 (x5 + 1)) x6 (x7.set x5.toNat (wu32 (wu64 ((wu64 (x3 + (wu64 (x7.getD x5.toNat 0)))) + (wu64 (x6.getD x5.toNat 0)))))) k0
            else none
          else none
        else
        bif (decide (0 ≤ x5)) && (decide (x5 < (x7.length : Int))) then
          nat_Add.l7 N n (Int.fdiv (wu64 (x3 + (wu64 (x7.getD x5.toNat 0)))) (2 ^ 32)) x4 (wi64 (x5 + 1)) x6 (x7.set x5.toNat (wu32 (wu64 (x3 + (wu64 (x7.getD x5.toNat 0)))))) k0
        else none
      else none
    else
    k0 x7
noncomputable def nat_Add.f (N : Nat) (a1 : List Int) (a2 : List Int) : Option (List Int × Int) :=
  bif decide ((a1.length : Int) < (a2.length : Int)) then
    bif decide (wi64 ((a2.length : Int) + 1) = wi64 ((a2.length : Int) + 1)) && decide (0 ≤ wi64 ((a2.length : Int) + 1)) && decide (wi64 ((a2.length : Int) + 1) ≤ 9223372036854775807) && roomy ((wi64 ((a2.length : Int) + 1)).toNat) 4 then
      nat_Add.l7 N N 0 ((splice (List.replicate ((wi64 ((a2.length : Int) + 1)).toNat) (0 : Int)) 0 (a2.take (min a2.length ((List.replicate ((wi64 ((a2.length : Int) + 1)).toNat) (0 : Int)).length)))).length : Int) 0 a1 (splice (List.replicate ((wi64 ((a2.length : Int) + 1)).toNat) (0 : Int)) 0 (a2.take (min a2.length ((List.replicate ((wi64 ((a2.length : Int) + 1)).toNat) (0 : Int)).length))))
        (fun y9 =>
          (nat_cut.f N 0 y9.length y9).bind fun r10 =>
          (nat_Nat_fits.f N ((r10.2.2.drop r10.1).take r10.2.1)).bind fun r11 =>
          some (r11.1, r11.2))
    else none
  else
  bif decide (wi64 ((a1.length : Int) + 1) = wi64 ((a1.length : Int) + 1)) && decide (0 ≤ wi64 ((a1.length : Int) + 1)) && decide (wi64 ((a1.length : Int) + 1) ≤ 9223372036854775807) && roomy ((wi64 ((a1.length : Int) + 1)).toNat) 4 then
    nat_Add.l7 N N 0 ((splice (List.replicate ((wi64 ((a1.length : Int) + 1)).toNat) (0 : Int)) 0 (a1.take (min a1.length ((List.replicate ((wi64 ((a1.length : Int) + 1)).toNat) (0 : Int)).length)))).length : Int) 0 a2 (splice (List.replicate ((wi64 ((a1.length : Int) + 1)).toNat) (0 : Int)) 0 (a1.take (min a1.length ((List.replicate ((wi64 ((a1.length : Int) + 1)).toNat) (0 : Int)).length))))
      (fun y12 =>
        (nat_cut.f N 0 y12.length y12).bind fun r13 =>
        (nat_Nat_fits.f N ((r13.2.2.drop r13.1).take r13.2.1)).bind fun r14 =>
        some (r14.1, r14.2))
  else none
noncomputable def nat_Add.body : Code := (Try.f54.body).getD .skip
noncomputable def nat_Add.ty : List (Nat × TI) := [(54, ty54), (56, ty56), (92, ty92), (107, ty107)]
noncomputable def nat_Add.h7 : Hint := ⟨[(3, .box [.il .u32 1]), (4, .box [.any]), (6, .row .u32 1), (7, .any), (28, .any), (29, .any)], [(4, .box [.any]), (6, .row .u32 1)]⟩
noncomputable def nat_Add.c7 (N : Nat) : Cut := ⟨fun vs H k => match vs, H with
  | [.ptr 0 0 1, .ptr 1 0 1, .sw 2 1, .c (.int .u64 x3), .c (.int .i64 x4), .c (.int .i64 x5)], [.vals [.il .u32 1 x6], .vals [.c (.slice none 0 0)], .ints .u32 x7] => nat_Add.l7 N N x3 x4 x5 x6 x7 (fun x8 => k (.exit 0) ⟨mkT nat_Add.h7.out [.ptr 0 0 1, .sw 1 1], [.vals [.c (.slice none 0 0)], .ints .u32 x8]⟩)
  | _, _ => none⟩
noncomputable def nat_Add.E (N : Nat) : Env := { ty := lookN nat_Add.ty, tab := lookN [(74, nat_cut.ent N), (75, nat_Nat_fits.ent N)], hint := lookN [(7, nat_Add.h7)], cut := lookN [(7, nat_Add.c7 N)], N := N, res := [.cell 4 56, .tmp 5], rsh := [.recd [.il .u32 1], .any], nb := 0, ntmps := 65, own := false }
noncomputable def nat_Add.b7 : Code := inner ((subLoops nat_Add.body).getD 0 .skip)
set_option maxRecDepth 100000 in
theorem nat_Add.l7_eq {R : Type} (N n : Nat) (x3 : Int) (x4 : Int) (x5 : Int) (x6 : List Int) (x7 : List Int) (k : Ex → St → Option R) :
    evLoop 0 nat_Add.h7 (fun s k => evCode (nat_Add.E N) 391 nat_Add.b7 s k) n [.ptr 0 0 1, .ptr 1 0 1, .sw 2 1, .c (.int .u64 x3), .c (.int .i64 x4), .c (.int .i64 x5)] [.vals [.il .u32 1 x6], .vals [.c (.slice none 0 0)], .ints .u32 x7] k = nat_Add.l7 N n x3 x4 x5 x6 x7 (fun x8 => k (.exit 0) ⟨mkT nat_Add.h7.out [.ptr 0 0 1, .sw 1 1], [.vals [.c (.slice none 0 0)], .ints .u32 x8]⟩) := by
  induction n generalizing x3 x4 x5 x6 x7 with
  | zero => kernel_rfl
  | succ n ih =>
    simp only [nat_Add.l7, ← ih]
    kernel_rfl
noncomputable def nat_Add.dec (v : V) (bs : List Blk) : Option (List Int × Int) := match v, bs with
  | .tup [.agg [.il .u32 1 z0], .c (.int .i64 z1)], [] => some (z0, z1)
  | _, _ => none
set_option maxRecDepth 100000 in
theorem nat_Add.f_eq (N : Nat) (a1 : List Int) (a2 : List Int) :
    evFun (nat_Add.E N) nat_Add.body [.agg [.il .u32 1 a1], .agg [.il .u32 1 a2]] [] nat_Add.dec = nat_Add.f N a1 a2 := by kernel_rfl
noncomputable def nat_Add.ent (N : Nat) : Entry := { A := List Int × Int, fresh := 0, imm := [true, true], dec := fun args bs => match freezeL 0 (fun _ => .dead) [.recd [.il .u32 1], .recd [.il .u32 1]] args, bs with
  | some [.agg [.il .u32 1 a1], .agg [.il .u32 1 a2]], [] => some (nat_Add.f N a1 a2, fun r => .one (.tup [.agg [.il .u32 1 r.1], .c (.int .i64 r.2)]) [])
  | _, _ => none }
theorem nat_Add.env (N : Nat) : EnvOK Try.prog (nat_Add.E N) := ⟨(TyOK.cons ty54_ok (TyOK.cons ty56_ok (TyOK.cons ty92_ok (TyOK.cons ty107_ok TyOK.nil)))), (TabOK.cons (nat_cut.ent_ok N) (TabOK.cons (nat_Nat_fits.ent_ok N) TabOK.nil))⟩
theorem nat_Add.res_eq (N : Nat) : (nat_Add.E N).res = Try.f54.results.toList := by kernel_rfl
theorem nat_Add.k7 (N : Nat) : CutOK Try.prog Try.f54 (nat_Add.E N) (.loop nat_Add.b7) := by
  intro e hd he hh R vs H k r h
  have e1 : (nat_Add.E N).cut (loopKey nat_Add.b7) = some (nat_Add.c7 N) := by kernel_rfl
  have e2 : (nat_Add.E N).hint (loopKey nat_Add.b7) = some nat_Add.h7 := by kernel_rfl
  rw [e1] at he; rw [e2] at hh; cases he; cases hh
  unfold nat_Add.c7 at h; dsimp only at h
  split at h
  · rw [← nat_Add.l7_eq] at h
    exact loop_ok (evCode_ok (nat_Add.env N) Try_mixed (nat_Add.res_eq N) 391 nat_Add.b7 (AllCut.of (l := []) (by kernel_rfl) AllCut.nil)) h
  · cases h
theorem nat_Add.spec (N : Nat) (a1 : List Int) (a2 : List Int) (r : List Int × Int) (h : nat_Add.f N a1 a2 = some r) : FnSpec Try.prog 54 [.agg [.il .u32 1 a1], .agg [.il .u32 1 a2]] [] (.tup [.agg [.il .u32 1 r.1], .c (.int .i64 r.2)]) ([]) := by
  rw [← nat_Add.f_eq] at h
  obtain ⟨v, bs', h1, h2⟩ := evFun_ok (nat_Add.env N) Try_mixed Try.func54 (by kernel_rfl : Try.f54.body = some nat_Add.body) (by kernel_rfl) (nat_Add.res_eq N) (by kernel_rfl) (by kernel_rfl) (Nat.le_of_ble_eq_true (by kernel_rfl)) (AllCut.of (l := [(.loop (inner ((subLoops nat_Add.body).getD 0 .skip)))]) (by kernel_rfl) (AllCut.cons (nat_Add.k7 N) AllCut.nil)) h
  unfold nat_Add.dec at h1; split at h1
  · cases h1; exact h2
  · cases h1
theorem nat_Add.ent_ok (N : Nat) : TabOK1 Try.prog 54 (nat_Add.ent N) := by
  intro args bs a enc h
  simp only [nat_Add.ent] at h
  split at h
  · rename_i hz; have h0 := Option.some.inj h; have h1 := congrArg Prod.fst h0; have h2 := congrArg Prod.snd h0; dsimp only at h1 h2; subst h2; exact FnSpec.of_freeze hz (nat_Add.spec N _ _ a h1)
  · cases h
/-! parquet/nat.less: function 76 -/
noncomputable def nat_less.l2 {R : Type} (N : Nat) : Nat → Nat → Nat → List Int → Int → Int → Int → List Int → (List Int → Option R) → Option R
  | 0, _, _, _, _, _, _, _, _ => none
  | n + 1, x5, x6, x7, x8, x9, x10, x11, k0 =>
    bif decide (x10 < x9) then
      bif decide (x10 < (x7.length : Int)) then
        bif (decide (0 ≤ x10)) && (decide (x10 < (x7.length : Int))) then
          bif (decide (0 ≤ x10)) && (decide (x10 < (x6 : Int))) then
            (bits_Sub32.f N (x11.getD (x5 + x10.toNat) 0) (x7.getD x10.toNat 0) x8).bind fun r12 =>
            bif (decide (0 ≤ x10)) && (decide (x10 < (x6 : Int))) then
              nat_less.l2 N n x5 x6 x7 r12.2 x9 (wi64 (x10 + 1)) (x11.set (x5 + x10.toNat) r12.1) k0
            else none
          else none
        else none
      else
      bif x8 == 0 then
        k0 x11
      else
      bif (decide (0 ≤ x10)) && (decide (x10 < (x6 : Int))) then
        (bits_Sub32.f N (x11.getD (x5 + x10.toNat) 0) 0 x8).bind fun r14 =>
        bif (decide (0 ≤ x10)) && (decide (x10 < (x6 : Int))) then
          nat_less.l2 N n x5 x6 x7 r14.2 x9 (wi64 (x10 + 1)) (x11.set (x5 + x10.toNat) r14.1) k0
        else none
      else none
    else
    k0 x11
noncomputable def nat_less.f (N : Nat) (a1 : Nat) (a2 : Nat) (a3 : List Int) (a4 : List Int) : Option (List Int) :=
  nat_less.l2 N N a1 a2 a3 0 (a2 : Int) 0 a4
    (fun y15 =>
      some y15)
noncomputable def nat_less.body : Code := (Try.f76.body).getD .skip
noncomputable def nat_less.ty : List (Nat × TI) := [(54, ty54), (107, ty107)]
noncomputable def nat_less.h2 : Hint := ⟨[(0, .any), (1, .il .u32 1), (4, .any), (8, .any), (9, .any)], []⟩
noncomputable def nat_less.c2 (N : Nat) : Cut := ⟨fun vs H k => match vs, H with
  | [.sl 0 1 x5 x6, .il .u32 1 x7, .c (.int .u32 x8), .c (.int .i64 x9), .c (.int .i64 x10)], [.ints .u32 x11] => nat_less.l2 N N x5 x6 x7 x8 x9 x10 x11 (fun x13 => k (.exit 0) ⟨mkT nat_less.h2.out [], [.ints .u32 x13]⟩)
  | _, _ => none⟩
noncomputable def nat_less.E (N : Nat) : Env := { ty := lookN nat_less.ty, tab := lookN [(86, bits_Sub32.ent N)], hint := lookN [(2, nat_less.h2)], cut := lookN [(2, nat_less.c2 N)], N := N, res := [], rsh := [], nb := 1, ntmps := 36, own := false }
noncomputable def nat_less.b2 : Code := inner ((subLoops nat_less.body).getD 1 .skip)
set_option maxRecDepth 100000 in
theorem nat_less.l2_eq {R : Type} (N n : Nat) (x5 : Nat) (x6 : Nat) (x7 : List Int) (x8 : Int) (x9 : Int) (x10 : Int) (x11 : List Int) (k : Ex → St → Option R) :
    evLoop 1 nat_less.h2 (fun s k => evCode (nat_less.E N) 394 nat_less.b2 s k) n [.sl 0 1 x5 x6, .il .u32 1 x7, .c (.int .u32 x8), .c (.int .i64 x9), .c (.int .i64 x10)] [.ints .u32 x11] k = nat_less.l2 N n x5 x6 x7 x8 x9 x10 x11 (fun x13 => k (.exit 0) ⟨mkT nat_less.h2.out [], [.ints .u32 x13]⟩) := by
  induction n generalizing x5 x6 x7 x8 x9 x10 x11 with
  | zero => kernel_rfl
  | succ n ih =>
    simp only [nat_less.l2, ← ih]
    kernel_rfl
noncomputable def nat_less.dec (v : V) (bs : List Blk) : Option (List Int) := match v, bs with
  | .tup [], [.ints .u32 z0] => some z0
  | _, _ => none
set_option maxRecDepth 100000 in
theorem nat_less.f_eq (N : Nat) (a1 : Nat) (a2 : Nat) (a3 : List Int) (a4 : List Int) :
    evFun (nat_less.E N) nat_less.body [.sl 0 1 a1 a2, .il .u32 1 a3] [.ints .u32 a4] nat_less.dec = nat_less.f N a1 a2 a3 a4 := by kernel_rfl
noncomputable def nat_less.ent (N : Nat) : Entry := { A := List Int, fresh := 0, imm := [false, true], dec := fun args bs => match asSlL (blkAt bs) [true, false] args, bs with
  | [.sl 0 1 a1 a2, .il .u32 1 a3], [.ints .u32 a4] => some (nat_less.f N a1 a2 a3 a4, fun r => .one (.tup []) [.ints .u32 r])
  | _, _ => none }
theorem nat_less.env (N : Nat) : EnvOK Try.prog (nat_less.E N) := ⟨(TyOK.cons ty54_ok (TyOK.cons ty107_ok TyOK.nil)), (TabOK.cons (bits_Sub32.ent_ok N) TabOK.nil)⟩
theorem nat_less.res_eq (N : Nat) : (nat_less.E N).res = Try.f76.results.toList := by kernel_rfl
theorem nat_less.k2 (N : Nat) : CutOK Try.prog Try.f76 (nat_less.E N) (.loop nat_less.b2) := by
  intro e hd he hh R vs H k r h
  have e1 : (nat_less.E N).cut (loopKey nat_less.b2) = some (nat_less.c2 N) := by kernel_rfl
  have e2 : (nat_less.E N).hint (loopKey nat_less.b2) = some nat_less.h2 := by kernel_rfl
  rw [e1] at he; rw [e2] at hh; cases he; cases hh
  unfold nat_less.c2 at h; dsimp only at h
  split at h
  · rw [← nat_less.l2_eq] at h
    exact loop_ok (evCode_ok (nat_less.env N) Try_mixed (nat_less.res_eq N) 394 nat_less.b2 (AllCut.of (l := []) (by kernel_rfl) AllCut.nil)) h
  · cases h
theorem nat_less.spec (N : Nat) (a1 : Nat) (a2 : Nat) (a3 : List Int) (a4 : List Int) (r : List Int) (h : nat_less.f N a1 a2 a3 a4 = some r) : FnSpec Try.prog 76 [.sl 0 1 a1 a2, .il .u32 1 a3] [.ints .u32 a4] (.tup []) ([.ints .u32 r]) := by
  rw [← nat_less.f_eq] at h
  obtain ⟨v, bs', h1, h2⟩ := evFun_ok (nat_less.env N) Try_mixed Try.func76 (by kernel_rfl : Try.f76.body = some nat_less.body) (by kernel_rfl) (nat_less.res_eq N) (by kernel_rfl) (by kernel_rfl) (Nat.le_of_ble_eq_true (by kernel_rfl)) (AllCut.of (l := [(.scope (inner ((subLoops nat_less.body).getD 0 .skip))), (.loop (inner ((subLoops nat_less.body).getD 1 .skip)))]) (by kernel_rfl) (AllCut.cons (cut_scope (by kernel_rfl)) (AllCut.cons (nat_less.k2 N) AllCut.nil))) h
  unfold nat_less.dec at h1; split at h1
  · cases h1; exact h2
  · cases h1
theorem nat_less.ent_ok (N : Nat) : TabOK1 Try.prog 76 (nat_less.ent N) := by
  intro args bs a enc h
  simp only [nat_less.ent] at h
  split at h
  · rename_i hz; have h0 := Option.some.inj h; have h1 := congrArg Prod.fst h0; have h2 := congrArg Prod.snd h0; dsimp only at h1 h2; subst h2; exact FnSpec.of_asSl (fl := [true, false]) (by rw [hz]; exact nat_less.spec N _ _ _ _ a h1)
  · cases h
/-! parquet/nat.Sub: function 56 -/
noncomputable def nat_Sub.f (N : Nat) (a1 : List Int) (a2 : List Int) : Option (List Int × Int) :=
  (nat_Cmp.f N a1 a2).bind fun r3 =>
  bif decide (r3 < 0) then
    some ([], 10)
  else
  bif decide ((a1.length : Int) = (a1.length : Int)) && decide (0 ≤ (a1.length : Int)) && decide ((a1.length : Int) ≤ 9223372036854775807) && roomy ((a1.length : Int).toNat) 4 then
    (nat_less.f N 0 ((splice (List.replicate ((a1.length : Int).toNat) (0 : Int)) 0 (a1.take (min a1.length ((List.replicate ((a1.length : Int).toNat) (0 : Int)).length)))).length) a2 (splice (List.replicate ((a1.length : Int).toNat) (0 : Int)) 0 (a1.take (min a1.length ((List.replicate ((a1.length : Int).toNat) (0 : Int)).length))))).bind fun r4 =>
    (nat_cut.f N 0 r4.length r4).bind fun r5 =>
    some ((r5.2.2.drop r5.1).take r5.2.1, 0)
  else none
noncomputable def nat_Sub.body : Code := (Try.f56.body).getD .skip
noncomputable def nat_Sub.ty : List (Nat × TI) := [(54, ty54), (56, ty56), (107, ty107)]
noncomputable def nat_Sub.E (N : Nat) : Env := { ty := lookN nat_Sub.ty, tab := lookN [(55, nat_Cmp.ent N), (76, nat_less.ent N), (74, nat_cut.ent N)], hint := lookN [], cut := lookN [], N := N, res := [.cell 4 56, .tmp 5], rsh := [.recd [.il .u32 1], .any], nb := 0, ntmps := 26, own := false }
noncomputable def nat_Sub.dec (v : V) (bs : List Blk) : Option (List Int × Int) := match v, bs with
  | .tup [.agg [.il .u32 1 z0], .c (.int .i64 z1)], [] => some (z0, z1)
  | _, _ => none
set_option maxRecDepth 100000 in
theorem nat_Sub.f_eq (N : Nat) (a1 : List Int) (a2 : List Int) :
    evFun (nat_Sub.E N) nat_Sub.body [.agg [.il .u32 1 a1], .agg [.il .u32 1 a2]] [] nat_Sub.dec = nat_Sub.f N a1 a2 := by kernel_rfl
noncomputable def nat_Sub.ent (N : Nat) : Entry := { A := List Int × Int, fresh := 0, imm := [true, true], dec := fun args bs => match freezeL 0 (fun _ => .dead) [.recd [.il .u32 1], .recd [.il .u32 1]] args, bs with
  | some [.agg [.il .u32 1 a1], .agg [.il .u32 1 a2]], [] => some (nat_Sub.f N a1 a2, fun r => .one (.tup [.agg [.il .u32 1 r.1], .c (.int .i64 r.2)]) [])
  | _, _ => none }
theorem nat_Sub.env (N : Nat) : EnvOK Try.prog (nat_Sub.E N) := ⟨(TyOK.cons ty54_ok (TyOK.cons ty56_ok (TyOK.cons ty107_ok TyOK.nil))), (TabOK.cons (nat_Cmp.ent_ok N) (TabOK.cons (nat_less.ent_ok N) (TabOK.cons (nat_cut.ent_ok N) TabOK.nil)))⟩
theorem nat_Sub.res_eq (N : Nat) : (nat_Sub.E N).res = Try.f56.results.toList := by kernel_rfl
theorem nat_Sub.spec (N : Nat) (a1 : List Int) (a2 : List Int) (r : List Int × Int) (h : nat_Sub.f N a1 a2 = some r) : FnSpec Try.prog 56 [.agg [.il .u32 1 a1], .agg [.il .u32 1 a2]] [] (.tup [.agg [.il .u32 1 r.1], .c (.int .i64 r.2)]) ([]) := by
  rw [← nat_Sub.f_eq] at h
  obtain ⟨v, bs', h1, h2⟩ := evFun_ok (nat_Sub.env N) Try_mixed Try.func56 (by kernel_rfl : Try.f56.body = some nat_Sub.body) (by kernel_rfl) (nat_Sub.res_eq N) (by kernel_rfl) (by kernel_rfl) (Nat.le_of_ble_eq_true (by kernel_rfl)) (AllCut.of (l := []) (by kernel_rfl) AllCut.nil) h
  unfold nat_Sub.dec at h1; split at h1
  · cases h1; exact h2
  · cases h1
theorem nat_Sub.ent_ok (N : Nat) : TabOK1 Try.prog 56 (nat_Sub.ent N) := by
  intro args bs a enc h
  simp only [nat_Sub.ent] at h
  split at h
  · rename_i hz; have h0 := Option.some.inj h; have h1 := congrArg Prod.fst h0; have h2 := congrArg Prod.snd h0; dsimp only at h1 h2; subst h2; exact FnSpec.of_freeze hz (nat_Sub.spec N _ _ a h1)
  · cases h
/-! parquet/nat.product: function 77 -/
noncomputable def nat_product.l7 {R : Type} (N : Nat) : Nat → Int → Int → Int → List Int → Int → Int → List Int → Int → Int → List Int → List Int → (Int → Int → List Int → Int → Int → List Int → List Int → Option R) → Option R
  | 0, _, _, _, _, _, _, _, _, _, _, _, _ => none
  | n + 1, x8, x9, x10, x11, x12, x13, x14, x15, x16, x17, x18, k2 =>
    bif decide (x16 < x15) then
      bif (decide (0 ≤ x16)) && (decide (x16 < (x14.length : Int))) then
        bif (decide (0 ≤ (wi64 (x8 + x16)))) && (decide ((wi64 (x8 + x16)) < (x18.length : Int))) then
          bif (decide (0 ≤ (wi64 (x8 + x16)))) && (decide ((wi64 (x8 + x16)) < (x18.length : Int))) then
            nat_product.l7 N n x8 x9 (Int.fdiv (wu64 (x10 + (wu64 ((wu64 ((wu64 x9) * (wu64 (x14.getD x16.toNat 0)))) + (wu64 (x18.getD ((wi64 (x8 + x16)).toNat) 0)))))) (2 ^ 32)) x11 x12 x13 x14 x15 (wi64 (x16 + 1)) x17 (x18.set ((wi64 (x8 + x16)).toNat) (wu32 (wu64 (x10 + (wu64 ((wu64 ((wu64 x9) * (wu64 (x14.getD x16.toNat 0)))) + (wu64 (x18.getD ((wi64 (x8 + x16)).toNat) 0)))))))) k2
          else none
        else none
      else none
    else
    k2 x8 x10 x11 x12 x13 x17 x18
noncomputable def nat_product.l3 {R : Type} (N : Nat) : Nat → List Int → Int → Int → List Int → List Int → (List Int → Option R) → Option R
  | 0, _, _, _, _, _, _ => none
  | n + 1, x3, x4, x5, x6, x7, k0 =>
    bif decide (x5 < x4) then
      bif (decide (0 ≤ x5)) && (decide (x5 < (x3.length : Int))) then
        nat_product.l7 N N x5 (x3.getD x5.toNat 0) 0 x3 x4 x5 x6 (x6.length : Int) 0 x6 x7
          (fun y26 y27 y28 y29 y30 y31 y32 =>
            bif (decide (0 ≤ (wi64 (y26 + (y31.length : Int))))) && (decide ((wi64 (y26 + (y31.length : Int))) < (y32.length : Int))) then
              nat_product.l3 N n y28 y29 (wi64 (y30 + 1)) y31 (y32.set ((wi64 (y26 + (y31.length : Int))).toNat) (wu32 y27)) k0
            else none)
      else none
    else
    k0 x7
noncomputable def nat_product.f (N : Nat) (a1 : List Int) (a2 : List Int) : Option (List Int) :=
  bif decide (wi64 ((a1.length : Int) + (a2.length : Int)) = wi64 ((a1.length : Int) + (a2.length : Int))) && decide (0 ≤ wi64 ((a1.length : Int) + (a2.length : Int))) && decide (wi64 ((a1.length : Int) + (a2.length : Int)) ≤ 9223372036854775807) && roomy ((wi64 ((a1.length : Int) + (a2.length : Int))).toNat) 4 then
    nat_product.l3 N N a1 (a1.length : Int) 0 a2 (List.replicate ((wi64 ((a1.length : Int) + (a2.length : Int))).toNat) (0 : Int))
      (fun y34 =>
        (nat_cut.f N 0 y34.length y34).bind fun r35 =>
        some ((r35.2.2.drop r35.1).take r35.2.1))
  else none
noncomputable def nat_product.body : Code := (Try.f77.body).getD .skip
noncomputable def nat_product.ty : List (Nat × TI) := [(54, ty54), (56, ty56), (92, ty92), (107, ty107)]
noncomputable def nat_product.h3 : Hint := ⟨[(3, .box [.il .u32 1]), (4, .box [.any]), (5, .row .u32 1), (20, .il .u32 1), (21, .any), (22, .any)], [(4, .box [.any]), (5, .row .u32 1)]⟩
noncomputable def nat_product.h7 : Hint := ⟨[(3, .box [.il .u32 1]), (4, .box [.any]), (5, .row .u32 1), (6, .any), (7, .any), (8, .any), (20, .il .u32 1), (21, .any), (22, .any), (28, .il .u32 1), (29, .any), (30, .any)], [(3, .box [.il .u32 1]), (4, .box [.any]), (5, .row .u32 1), (6, .any), (8, .any), (20, .il .u32 1), (21, .any), (22, .any)]⟩
noncomputable def nat_product.c7 (N : Nat) : Cut := ⟨fun vs H k => match vs, H with
  | [.ptr 0 0 1, .ptr 1 0 1, .sw 2 1, .c (.int .i64 x8), .c (.int .u32 x9), .c (.int .u64 x10), .il .u32 1 x11, .c (.int .i64 x12), .c (.int .i64 x13), .il .u32 1 x14, .c (.int .i64 x15), .c (.int .i64 x16)], [.vals [.il .u32 1 x17], .vals [.c (.slice none 0 0)], .ints .u32 x18] => nat_product.l7 N N x8 x9 x10 x11 x12 x13 x14 x15 x16 x17 x18 (fun x19 x20 x21 x22 x23 x24 x25 => k (.exit 2) ⟨mkT nat_product.h7.out [.ptr 0 0 1, .ptr 1 0 1, .sw 2 1, .c (.int .i64 x19), .c (.int .u64 x20), .il .u32 1 x21, .c (.int .i64 x22), .c (.int .i64 x23)], [.vals [.il .u32 1 x24], .vals [.c (.slice none 0 0)], .ints .u32 x25]⟩)
  | _, _ => none⟩
noncomputable def nat_product.c3 (N : Nat) : Cut := ⟨fun vs H k => match vs, H with
  | [.ptr 0 0 1, .ptr 1 0 1, .sw 2 1, .il .u32 1 x3, .c (.int .i64 x4), .c (.int .i64 x5)], [.vals [.il .u32 1 x6], .vals [.c (.slice none 0 0)], .ints .u32 x7] => nat_product.l3 N N x3 x4 x5 x6 x7 (fun x33 => k (.exit 0) ⟨mkT nat_product.h3.out [.ptr 0 0 1, .sw 1 1], [.vals [.c (.slice none 0 0)], .ints .u32 x33]⟩)
  | _, _ => none⟩
noncomputable def nat_product.E (N : Nat) : Env := { ty := lookN nat_product.ty, tab := lookN [(74, nat_cut.ent N)], hint := lookN [(3, nat_product.h3), (7, nat_product.h7)], cut := lookN [(7, nat_product.c7 N), (3, nat_product.c3 N)], N := N, res := [.cell 4 56], rsh := [.recd [.il .u32 1]], nb := 0, ntmps := 72, own := false }
noncomputable def nat_product.b7 : Code := inner ((subLoops nat_product.body).getD 1 .skip)
set_option maxRecDepth 100000 in
theorem nat_product.l7_eq {R : Type} (N n : Nat) (x8 : Int) (x9 : Int) (x10 : Int) (x11 : List Int) (x12 : Int) (x13 : Int) (x14 : List Int) (x15 : Int) (x16 : Int) (x17 : List Int) (x18 : List Int) (k : Ex → St → Option R) :
    evLoop 0 nat_product.h7 (fun s k => evCode (nat_product.E N) 384 nat_product.b7 s k) n [.ptr 0 0 1, .ptr 1 0 1, .sw 2 1, .c (.int .i64 x8), .c (.int .u32 x9), .c (.int .u64 x10), .il .u32 1 x11, .c (.int .i64 x12), .c (.int .i64 x13), .il .u32 1 x14, .c (.int .i64 x15), .c (.int .i64 x16)] [.vals [.il .u32 1 x17], .vals [.c (.slice none 0 0)], .ints .u32 x18] k = nat_product.l7 N n x8 x9 x10 x11 x12 x13 x14 x15 x16 x17 x18 (fun x19 x20 x21 x22 x23 x24 x25 => k (.exit 2) ⟨mkT nat_product.h7.out [.ptr 0 0 1, .ptr 1 0 1, .sw 2 1, .c (.int .i64 x19), .c (.int .u64 x20), .il .u32 1 x21, .c (.int .i64 x22), .c (.int .i64 x23)], [.vals [.il .u32 1 x24], .vals [.c (.slice none 0 0)], .ints .u32 x25]⟩) := by
  induction n generalizing x8 x9 x10 x11 x12 x13 x14 x15 x16 x17 x18 with
  | zero => kernel_rfl
  | succ n ih =>
    simp only [nat_product.l7, ← ih]
    kernel_rfl
noncomputable def nat_product.b3 : Code := inner ((subLoops nat_product.body).getD 0 .skip)
set_option maxRecDepth 100000 in
theorem nat_product.l3_eq {R : Type} (N n : Nat) (x3 : List Int) (x4 : Int) (x5 : Int) (x6 : List Int) (x7 : List Int) (k : Ex → St → Option R) :
    evLoop 0 nat_product.h3 (fun s k => evCode (nat_product.E N) 394 nat_product.b3 s k) n [.ptr 0 0 1, .ptr 1 0 1, .sw 2 1, .il .u32 1 x3, .c (.int .i64 x4), .c (.int .i64 x5)] [.vals [.il .u32 1 x6], .vals [.c (.slice none 0 0)], .ints .u32 x7] k = nat_product.l3 N n x3 x4 x5 x6 x7 (fun x33 => k (.exit 0) ⟨mkT nat_product.h3.out [.ptr 0 0 1, .sw 1 1], [.vals [.c (.slice none 0 0)], .ints .u32 x33]⟩) := by
  induction n generalizing x3 x4 x5 x6 x7 with
  | zero => kernel_rfl
  | succ n ih =>
    simp only [nat_product.l3, ← ih]
    kernel_rfl
noncomputable def nat_product.dec (v : V) (bs : List Blk) : Option (List Int) := match v, bs with
  | .agg [.il .u32 1 z0], [] => some z0
  | _, _ => none
set_option maxRecDepth 100000 in
theorem nat_product.f_eq (N : Nat) (a1 : List Int) (a2 : List Int) :
    evFun (nat_product.E N) nat_product.body [.agg [.il .u32 1 a1], .agg [.il .u32 1 a2]] [] nat_product.dec = nat_product.f N a1 a2 := by kernel_rfl
noncomputable def nat_product.ent (N : Nat) : Entry := { A := List Int, fresh := 0, imm := [true, true], dec := fun args bs => match freezeL 0 (fun _ => .dead) [.recd [.il .u32 1], .recd [.il .u32 1]] args, bs with
  | some [.agg [.il .u32 1 a1], .agg [.il .u32 1 a2]], [] => some (nat_product.f N a1 a2, fun r => .one (.agg [.il .u32 1 r]) [])
  | _, _ => none }
theorem nat_product.env (N : Nat) : EnvOK Try.prog (nat_product.E N) := ⟨(TyOK.cons ty54_ok (TyOK.cons ty56_ok (TyOK.cons ty92_ok (TyOK.cons ty107_ok TyOK.nil)))), (TabOK.cons (nat_cut.ent_ok N) TabOK.nil)⟩
theorem nat_product.res_eq (N : Nat) : (nat_product.E N).res = Try.f77.results.toList := by kernel_rfl
theorem nat_product.k7 (N : Nat) : CutOK Try.prog Try.f77 (nat_product.E N) (.loop nat_product.b7) := by
  intro e hd he hh R vs H k r h
  have e1 : (nat_product.E N).cut (loopKey nat_product.b7) = some (nat_product.c7 N) := by kernel_rfl
  have e2 : (nat_product.E N).hint (loopKey nat_product.b7) = some nat_product.h7 := by kernel_rfl
  rw [e1] at he; rw [e2] at hh; cases he; cases hh
  unfold nat_product.c7 at h; dsimp only at h
  split at h
  · rw [← nat_product.l7_eq] at h
    exact loop_ok (evCode_ok (nat_product.env N) Try_mixed (nat_product.res_eq N) 384 nat_product.b7 (AllCut.of (l := []) (by kernel_rfl) AllCut.nil)) h
  · cases h
theorem nat_product.k3 (N : Nat) : CutOK Try.prog Try.f77 (nat_product.E N) (.loop nat_product.b3) := by
  intro e hd he hh R vs H k r h
  have e1 : (nat_product.E N).cut (loopKey nat_product.b3) = some (nat_product.c3 N) := by kernel_rfl
  have e2 : (nat_product.E N).hint (loopKey nat_product.b3) = some nat_product.h3 := by kernel_rfl
  rw [e1] at he; rw [e2] at hh; cases he; cases hh
  unfold nat_product.c3 at h; dsimp only at h
  split at h
  · rw [← nat_product.l3_eq] at h
    exact loop_ok (evCode_ok (nat_product.env N) Try_mixed (nat_product.res_eq N) 394 nat_product.b3 (AllCut.of (l := [(.loop (inner ((subLoops nat_product.body).getD 1 .skip)))]) (by kernel_rfl) (AllCut.cons (nat_product.k7 N) AllCut.nil))) h
  · cases h
theorem nat_product.spec (N : Nat) (a1 : List Int) (a2 : List Int) (r : List Int) (h : nat_product.f N a1 a2 = some r) : FnSpec Try.prog 77 [.agg [.il .u32 1 a1], .agg [.il .u32 1 a2]] [] (.agg [.il .u32 1 r]) ([]) := by
  rw [← nat_product.f_eq] at h
  obtain ⟨v, bs', h1, h2⟩ := evFun_ok (nat_product.env N) Try_mixed Try.func77 (by kernel_rfl : Try.f77.body = some nat_product.body) (by kernel_rfl) (nat_product.res_eq N) (by kernel_rfl) (by kernel_rfl) (Nat.le_of_ble_eq_true (by kernel_rfl)) (AllCut.of (l := [(.loop (inner ((subLoops nat_product.body).getD 0 .skip))), (.loop (inner ((subLoops nat_product.body).getD 1 .skip)))]) (by kernel_rfl) (AllCut.cons (nat_product.k3 N) (AllCut.cons (nat_product.k7 N) AllCut.nil))) h
  unfold nat_product.dec at h1; split at h1
  · cases h1; exact h2
  · cases h1
theorem nat_product.ent_ok (N : Nat) : TabOK1 Try.prog 77 (nat_product.ent N) := by
  intro args bs a enc h
  simp only [nat_product.ent] at h
  split at h
  · rename_i hz; have h0 := Option.some.inj h; have h1 := congrArg Prod.fst h0; have h2 := congrArg Prod.snd h0; dsimp only at h1 h2; subst h2; exact FnSpec.of_freeze hz (nat_product.spec N _ _ a h1)
  · cases h
/-! parquet/nat.Mul: function 59 -/
noncomputable def nat_Mul.f (N : Nat) (a1 : List Int) (a2 : List Int) : Option (List Int × Int) :=
  (nat_Nat_Bits.f N a1).bind fun r3 =>
  (nat_Nat_Bits.f N a2).bind fun r4 =>
  bif decide ((wi64 (r3 + r4)) > 4097) then
    some ([], 3)
  else
  (nat_product.f N a1 a2).bind fun r5 =>
  (nat_Nat_fits.f N r5).bind fun r6 =>
  some (r6.1, r6.2)
noncomputable def nat_Mul.body : Code := (Try.f59.body).getD .skip
noncomputable def nat_Mul.ty : List (Nat × TI) := [(54, ty54), (56, ty56)]
noncomputable def nat_Mul.E (N : Nat) : Env := { ty := lookN nat_Mul.ty, tab := lookN [(73, nat_Nat_Bits.ent N), (77, nat_product.ent N), (75, nat_Nat_fits.ent N)], hint := lookN [], cut := lookN [], N := N, res := [.cell 4 56, .tmp 5], rsh := [.recd [.il .u32 1], .any], nb := 0, ntmps := 19, own := false }
noncomputable def nat_Mul.dec (v : V) (bs : List Blk) : Option (List Int × Int) := match v, bs with
  | .tup [.agg [.il .u32 1 z0], .c (.int .i64 z1)], [] => some (z0, z1)
  | _, _ => none
set_option maxRecDepth 100000 in
theorem nat_Mul.f_eq (N : Nat) (a1 : List Int) (a2 : List Int) :
    evFun (nat_Mul.E N) nat_Mul.body [.agg [.il .u32 1 a1], .agg [.il .u32 1 a2]] [] nat_Mul.dec = nat_Mul.f N a1 a2 := by kernel_rfl
noncomputable def nat_Mul.ent (N : Nat) : Entry := { A := List Int × Int, fresh := 0, imm := [true, true], dec := fun args bs => match freezeL 0 (fun _ => .dead) [.recd [.il .u32 1], .recd [.il .u32 1]] args, bs with
  | some [.agg [.il .u32 1 a1], .agg [.il .u32 1 a2]], [] => some (nat_Mul.f N a1 a2, fun r => .one (.tup [.agg [.il .u32 1 r.1], .c (.int .i64 r.2)]) [])
  | _, _ => none }
theorem nat_Mul.env (N : Nat) : EnvOK Try.prog (nat_Mul.E N) := ⟨(TyOK.cons ty54_ok (TyOK.cons ty56_ok TyOK.nil)), (TabOK.cons (nat_Nat_Bits.ent_ok N) (TabOK.cons (nat_product.ent_ok N) (TabOK.cons (nat_Nat_fits.ent_ok N) TabOK.nil)))⟩
theorem nat_Mul.res_eq (N : Nat) : (nat_Mul.E N).res = Try.f59.results.toList := by kernel_rfl
theorem nat_Mul.spec (N : Nat) (a1 : List Int) (a2 : List Int) (r : List Int × Int) (h : nat_Mul.f N a1 a2 = some r) : FnSpec Try.prog 59 [.agg [.il .u32 1 a1], .agg [.il .u32 1 a2]] [] (.tup [.agg [.il .u32 1 r.1], .c (.int .i64 r.2)]) ([]) := by
  rw [← nat_Mul.f_eq] at h
  obtain ⟨v, bs', h1, h2⟩ := evFun_ok (nat_Mul.env N) Try_mixed Try.func59 (by kernel_rfl : Try.f59.body = some nat_Mul.body) (by kernel_rfl) (nat_Mul.res_eq N) (by kernel_rfl) (by kernel_rfl) (Nat.le_of_ble_eq_true (by kernel_rfl)) (AllCut.of (l := []) (by kernel_rfl) AllCut.nil) h
  unfold nat_Mul.dec at h1; split at h1
  · cases h1; exact h2
  · cases h1
theorem nat_Mul.ent_ok (N : Nat) : TabOK1 Try.prog 59 (nat_Mul.ent N) := by
  intro args bs a enc h
  simp only [nat_Mul.ent] at h
  split at h
  · rename_i hz; have h0 := Option.some.inj h; have h1 := congrArg Prod.fst h0; have h2 := congrArg Prod.snd h0; dsimp only at h1 h2; subst h2; exact FnSpec.of_freeze hz (nat_Mul.spec N _ _ a h1)
  · cases h
end Go.Proofs.Ytckddgepjhclpaa
