-- The seat's functions as the evaluator goes through them: typed models and their laws.
import Derived.Test.YtifnooogklfifaaProg
import Derived.Test.YtifnooogklfifaaEvF
import Derived.KernelRfl
namespace Go.Proofs.Ytifnooogklfifaa
open Go.Proofs.Ytifnooogklfifaa.Ev
set_option linter.unusedVariables false
open Go
def str0 : ByteArray := ⟨#[0, 1, 2, 2, 3, 3, 3, 3, 4, 4, 4, 4, 4, 4, 4, 4, 5, 5, 5, 5, 5, 5, 5, 5, 5, 5, 5, 5, 5, 5, 5, 5, 6, 6, 6, 6, 6, 6, 6, 6, 6, 6, 6, 6, 6, 6, 6, 6, 6, 6, 6, 6, 6, 6, 6, 6, 6, 6, 6, 6, 6, 6, 6, 6, 7, 7, 7, 7, 7, 7, 7, 7, 7, 7, 7, 7, 7, 7, 7, 7, 7, 7, 7, 7, 7, 7, 7, 7, 7, 7, 7, 7, 7, 7, 7, 7, 7, 7, 7, 7, 7, 7, 7, 7, 7, 7, 7, 7, 7, 7, 7, 7, 7, 7, 7, 7, 7, 7, 7, 7, 7, 7, 7, 7, 7, 7, 7, 7, 8, 8, 8, 8, 8, 8, 8, 8, 8, 8, 8, 8, 8, 8, 8, 8, 8, 8, 8, 8, 8, 8, 8, 8, 8, 8, 8, 8, 8, 8, 8, 8, 8, 8, 8, 8, 8, 8, 8, 8, 8, 8, 8, 8, 8, 8, 8, 8, 8, 8, 8, 8, 8, 8, 8, 8, 8, 8, 8, 8, 8, 8, 8, 8, 8, 8, 8, 8, 8, 8, 8, 8, 8, 8, 8, 8, 8, 8, 8, 8, 8, 8, 8, 8, 8, 8, 8, 8, 8, 8, 8, 8, 8, 8, 8, 8, 8, 8, 8, 8, 8, 8, 8, 8, 8, 8, 8, 8, 8, 8, 8, 8, 8, 8, 8, 8, 8, 8, 8, 8, 8, 8, 8, 8, 8, 8, 8, 8]⟩
noncomputable def ty3 : TI := ⟨.int .i64, 1, 8, [.int .i64 0]⟩
noncomputable def ty5 : TI := ⟨.int .u8, 1, 1, [.int .u8 0]⟩
noncomputable def ty9 : TI := ⟨.str, 1, 16, [.string ByteArray.empty]⟩
noncomputable def ty72 : TI := ⟨.slice 92, 1, 24, [.slice none 0 0]⟩
noncomputable def ty74 : TI := ⟨.struct [(72, 0)], 1, 24, [.slice none 0 0]⟩
noncomputable def ty92 : TI := ⟨.int .u32, 1, 4, [.int .u32 0]⟩
noncomputable def ty94 : TI := ⟨.int .u64, 1, 8, [.int .u64 0]⟩
theorem Try_mixed : Try.prog.follows .mixedOrders = true := by kernel_rfl
theorem ty3_ok : TyOK1 Try.prog 3 ty3 := tyok_of (by kernel_rfl) (by kernel_rfl) (by kernel_rfl) (by kernel_rfl) (by kernel_rfl) (by kernel_rfl) (by kernel_rfl) (Try.underlying3) (by kernel_rfl)
theorem ty5_ok : TyOK1 Try.prog 5 ty5 := tyok_of (by kernel_rfl) (by kernel_rfl) (by kernel_rfl) (by kernel_rfl) (by kernel_rfl) (by kernel_rfl) (by kernel_rfl) (Try.underlying5) (by kernel_rfl)
theorem ty9_ok : TyOK1 Try.prog 9 ty9 := tyok_of (by kernel_rfl) (by kernel_rfl) (by kernel_rfl) (by kernel_rfl) (by kernel_rfl) (by kernel_rfl) (by kernel_rfl) (Try.underlying9) (by kernel_rfl)
theorem ty72_ok : TyOK1 Try.prog 72 ty72 := tyok_of (by kernel_rfl) (by kernel_rfl) (by kernel_rfl) (by kernel_rfl) (by kernel_rfl) (by kernel_rfl) (by kernel_rfl) (Try.underlying72) (by kernel_rfl)
theorem ty74_ok : TyOK1 Try.prog 74 ty74 := tyok_of (by kernel_rfl) (by kernel_rfl) (by kernel_rfl) (by kernel_rfl) (by kernel_rfl) (by kernel_rfl) (by kernel_rfl) (tk_struct Try.underlying74 (by kernel_rfl) (by kernel_rfl)) (by kernel_rfl)
theorem ty92_ok : TyOK1 Try.prog 92 ty92 := tyok_of (by kernel_rfl) (by kernel_rfl) (by kernel_rfl) (by kernel_rfl) (by kernel_rfl) (by kernel_rfl) (by kernel_rfl) (Try.underlying92) (by kernel_rfl)
theorem ty94_ok : TyOK1 Try.prog 94 ty94 := tyok_of (by kernel_rfl) (by kernel_rfl) (by kernel_rfl) (by kernel_rfl) (by kernel_rfl) (by kernel_rfl) (by kernel_rfl) (Try.underlying94) (by kernel_rfl)
/-! math/bits.Len32: function 65 -/
noncomputable def bits_Len32.f (N : Nat) (a1 : Int) : Option (Int) :=
  bif decide (a1 ≥ 65536) then
    bif decide ((Int.fdiv a1 (2 ^ 16)) ≥ 256) then
      bif (decide (0 ≤ (wu8 (Int.fdiv (Int.fdiv a1 (2 ^ 16)) (2 ^ 8))))) && (decide ((wu8 (Int.fdiv (Int.fdiv a1 (2 ^ 16)) (2 ^ 8))) < (str0.size : Int))) then
        some (wi64 (24 + (wi64 (byteAt str0 ((wu8 (Int.fdiv (Int.fdiv a1 (2 ^ 16)) (2 ^ 8))).toNat)))))
      else none
    else
    bif (decide (0 ≤ (wu8 (Int.fdiv a1 (2 ^ 16))))) && (decide ((wu8 (Int.fdiv a1 (2 ^ 16))) < (str0.size : Int))) then
      some (wi64 (16 + (wi64 (byteAt str0 ((wu8 (Int.fdiv a1 (2 ^ 16))).toNat)))))
    else none
  else
  bif decide (a1 ≥ 256) then
    bif (decide (0 ≤ (wu8 (Int.fdiv a1 (2 ^ 8))))) && (decide ((wu8 (Int.fdiv a1 (2 ^ 8))) < (str0.size : Int))) then
      some (wi64 (8 + (wi64 (byteAt str0 ((wu8 (Int.fdiv a1 (2 ^ 8))).toNat)))))
    else none
  else
  bif (decide (0 ≤ (wu8 a1))) && (decide ((wu8 a1) < (str0.size : Int))) then
    some (wi64 (0 + (wi64 (byteAt str0 ((wu8 a1).toNat)))))
  else none
noncomputable def bits_Len32.body : Code := (Try.f65.body).getD .skip
noncomputable def bits_Len32.ty : List (Nat × TI) := [(3, ty3), (5, ty5), (9, ty9), (92, ty92)]
noncomputable def bits_Len32.E (N : Nat) : Env := { ty := lookN bits_Len32.ty, tab := lookN [], hint := lookN [], cut := lookN [], N := N, res := [.tmp 2], rsh := [.any], nb := 0, ntmps := 19, own := false }
noncomputable def bits_Len32.dec (v : V) (bs : List Blk) : Option (Int) := match v, bs with
  | .c (.int .i64 z0), [] => some z0
  | _, _ => none
set_option maxRecDepth 100000 in
theorem bits_Len32.f_eq (N : Nat) (a1 : Int) :
    evFun (bits_Len32.E N) bits_Len32.body [.c (.int .u32 a1)] [] bits_Len32.dec = bits_Len32.f N a1 := by kernel_rfl
noncomputable def bits_Len32.ent (N : Nat) : Entry := { A := Int, fresh := 0, imm := [true], dec := fun args bs => match freezeL 0 (fun _ => .dead) [.any] args, bs with
  | some [.c (.int .u32 a1)], [] => some (bits_Len32.f N a1, fun r => .one (.c (.int .i64 r)) [])
  | _, _ => none }
theorem bits_Len32.env (N : Nat) : EnvOK Try.prog (bits_Len32.E N) := ⟨(TyOK.cons ty3_ok (TyOK.cons ty5_ok (TyOK.cons ty9_ok (TyOK.cons ty92_ok TyOK.nil)))), TabOK.nil⟩
theorem bits_Len32.res_eq (N : Nat) : (bits_Len32.E N).res = Try.f65.results.toList := by kernel_rfl
theorem bits_Len32.spec (N : Nat) (a1 : Int) (r : Int) (h : bits_Len32.f N a1 = some r) : FnSpec Try.prog 65 [.c (.int .u32 a1)] [] (.c (.int .i64 r)) ([]) := by
  rw [← bits_Len32.f_eq] at h
  refine (evFun_ok (bits_Len32.env N) Try_mixed Try.func65 (by kernel_rfl : Try.f65.body = some bits_Len32.body) (by kernel_rfl) (bits_Len32.res_eq N) (by kernel_rfl) (by kernel_rfl) (Nat.le_of_ble_eq_true (by kernel_rfl)) (AllCut.of (l := []) (by kernel_rfl) AllCut.nil) h).of fun v bs' h1 => ?_
  unfold bits_Len32.dec at h1; split at h1
  · cases h1; exact ⟨rfl, rfl⟩
  · cases h1
theorem bits_Len32.ent_ok (N : Nat) : TabOK1 Try.prog 65 (bits_Len32.ent N) := by
  intro args bs a enc h
  simp only [bits_Len32.ent] at h
  split at h
  · rename_i hz; have h0 := Option.some.inj h; have h1 := congrArg Prod.fst h0; have h2 := congrArg Prod.snd h0; dsimp only at h1 h2; subst h2; exact FnSpec.of_freeze hz (bits_Len32.spec N _ a h1)
  · cases h
/-! math/bits.Sub32: function 102 -/
noncomputable def bits_Sub32.f (N : Nat) (a1 : Int) (a2 : Int) (a3 : Int) : Option (Int × Int) :=
  some (wu32 ((wu32 (a1 - a2)) - a3), Int.fdiv (bit_or .u32 (bit_and .u32 (bit_xor .u32 4294967295 a1) a2) (bit_and .u32 (bit_xor .u32 4294967295 (bit_xor .u32 a1 a2)) (wu32 ((wu32 (a1 - a2)) - a3)))) (2 ^ 31))
noncomputable def bits_Sub32.body : Code := (Try.f102.body).getD .skip
noncomputable def bits_Sub32.ty : List (Nat × TI) := []
noncomputable def bits_Sub32.E (N : Nat) : Env := { ty := lookN bits_Sub32.ty, tab := lookN [], hint := lookN [], cut := lookN [], N := N, res := [.tmp 6, .tmp 7], rsh := [.any, .any], nb := 0, ntmps := 25, own := false }
noncomputable def bits_Sub32.dec (v : V) (bs : List Blk) : Option (Int × Int) := match v, bs with
  | .tup [.c (.int .u32 z0), .c (.int .u32 z1)], [] => some (z0, z1)
  | _, _ => none
set_option maxRecDepth 100000 in
theorem bits_Sub32.f_eq (N : Nat) (a1 : Int) (a2 : Int) (a3 : Int) :
    evFun (bits_Sub32.E N) bits_Sub32.body [.c (.int .u32 a1), .c (.int .u32 a2), .c (.int .u32 a3)] [] bits_Sub32.dec = bits_Sub32.f N a1 a2 a3 := by kernel_rfl
noncomputable def bits_Sub32.ent (N : Nat) : Entry := { A := Int × Int, fresh := 0, imm := [true, true, true], dec := fun args bs => match freezeL 0 (fun _ => .dead) [.any, .any, .any] args, bs with
  | some [.c (.int .u32 a1), .c (.int .u32 a2), .c (.int .u32 a3)], [] => some (bits_Sub32.f N a1 a2 a3, fun r => .one (.tup [.c (.int .u32 r.1), .c (.int .u32 r.2)]) [])
  | _, _ => none }
theorem bits_Sub32.env (N : Nat) : EnvOK Try.prog (bits_Sub32.E N) := ⟨TyOK.nil, TabOK.nil⟩
theorem bits_Sub32.res_eq (N : Nat) : (bits_Sub32.E N).res = Try.f102.results.toList := by kernel_rfl
theorem bits_Sub32.spec (N : Nat) (a1 : Int) (a2 : Int) (a3 : Int) (r : Int × Int) (h : bits_Sub32.f N a1 a2 a3 = some r) : FnSpec Try.prog 102 [.c (.int .u32 a1), .c (.int .u32 a2), .c (.int .u32 a3)] [] (.tup [.c (.int .u32 r.1), .c (.int .u32 r.2)]) ([]) := by
  rw [← bits_Sub32.f_eq] at h
  refine (evFun_ok (bits_Sub32.env N) Try_mixed Try.func102 (by kernel_rfl : Try.f102.body = some bits_Sub32.body) (by kernel_rfl) (bits_Sub32.res_eq N) (by kernel_rfl) (by kernel_rfl) (Nat.le_of_ble_eq_true (by kernel_rfl)) (AllCut.of (l := []) (by kernel_rfl) AllCut.nil) h).of fun v bs' h1 => ?_
  unfold bits_Sub32.dec at h1; split at h1
  · cases h1; exact ⟨rfl, rfl⟩
  · cases h1
theorem bits_Sub32.ent_ok (N : Nat) : TabOK1 Try.prog 102 (bits_Sub32.ent N) := by
  intro args bs a enc h
  simp only [bits_Sub32.ent] at h
  split at h
  · rename_i hz; have h0 := Option.some.inj h; have h1 := congrArg Prod.fst h0; have h2 := congrArg Prod.snd h0; dsimp only at h1 h2; subst h2; exact FnSpec.of_freeze hz (bits_Sub32.spec N _ _ _ a h1)
  · cases h
/-! parquet/nat.cut: function 87 -/
noncomputable def nat_cut.l2 {R : Type} (N : Nat) : Nat → Nat → Nat → Int → List Int → (Nat → Nat → Int → List Int → Option R) → Option R
  | 0, _, _, _, _, _ => none
  | n + 1, x4, x5, x6, x7, k0 =>
    bif decide (x6 > 0) then
      bif (decide (0 ≤ (wi64 (x6 - 1)))) && (decide ((wi64 (x6 - 1)) < (x5 : Int))) then
        bif (x7.getD (x4 + ((wi64 (x6 - 1)).toNat)) 0) == 0 then
          nat_cut.l2 N n x4 x5 (wi64 (x6 - 1)) x7 k0
        else
        k0 x4 x5 x6 x7
      else none
    else
    k0 x4 x5 x6 x7
noncomputable def nat_cut.f (N : Nat) (a1 : Nat) (a2 : Nat) (a3 : List Int) : Option (Nat × Nat × List Int) :=
  nat_cut.l2 N N a1 a2 (a2 : Int) a3
    (fun y12 y13 y14 y15 =>
      bif ((decide (0 ≤ y14)) && (decide (y14 ≤ y14))) && (decide (y14 ≤ (y13 : Int))) then
        some (y12, y14.toNat, y15)
      else none)
noncomputable def nat_cut.body : Code := (Try.f87.body).getD .skip
noncomputable def nat_cut.ty : List (Nat × TI) := [(72, ty72), (74, ty74), (92, ty92)]
noncomputable def nat_cut.h2 : Hint := ⟨[(0, .any), (2, .box [.any]), (3, .any)], [(0, .any), (2, .box [.any]), (3, .any)]⟩
noncomputable def nat_cut.c2 (N : Nat) : Cut := ⟨fun vs H k => match vs, H with
  | [.sl 0 1 x4 x5, .ptr 1 0 1, .c (.int .i64 x6)], [.ints .u32 x7, .vals [.c (.slice none 0 0)]] => nat_cut.l2 N N x4 x5 x6 x7 (fun x8 x9 x10 x11 => k (.exit 0) ⟨mkT nat_cut.h2.out [.sl 0 1 x8 x9, .ptr 1 0 1, .c (.int .i64 x10)], [.ints .u32 x11, .vals [.c (.slice none 0 0)]]⟩)
  | _, _ => none⟩
noncomputable def nat_cut.E (N : Nat) : Env := { ty := lookN nat_cut.ty, tab := lookN [], hint := lookN [(2, nat_cut.h2)], cut := lookN [(2, nat_cut.c2 N)], N := N, res := [.cell 2 74], rsh := [.recd [.any]], nb := 1, ntmps := 23, own := false }
noncomputable def nat_cut.b2 : Code := inner ((subLoops nat_cut.body).getD 0 .skip)
set_option maxRecDepth 100000 in
theorem nat_cut.l2_eq {R : Type} (N n : Nat) (x4 : Nat) (x5 : Nat) (x6 : Int) (x7 : List Int) (k : Ex → St → Option R) :
    evLoop 1 nat_cut.h2 (fun s k => evCode (nat_cut.E N) 395 nat_cut.b2 s k) n [.sl 0 1 x4 x5, .ptr 1 0 1, .c (.int .i64 x6)] [.ints .u32 x7, .vals [.c (.slice none 0 0)]] k = nat_cut.l2 N n x4 x5 x6 x7 (fun x8 x9 x10 x11 => k (.exit 0) ⟨mkT nat_cut.h2.out [.sl 0 1 x8 x9, .ptr 1 0 1, .c (.int .i64 x10)], [.ints .u32 x11, .vals [.c (.slice none 0 0)]]⟩) := by
  induction n generalizing x4 x5 x6 x7 with
  | zero => kernel_rfl
  | succ n ih =>
    simp only [nat_cut.l2, ← ih]
    kernel_rfl
noncomputable def nat_cut.dec (v : V) (bs : List Blk) : Option (Nat × Nat × List Int) := match v, bs with
  | .agg [.sl 0 1 z0 z1], [.ints .u32 z2] => some (z0, z1, z2)
  | _, _ => none
set_option maxRecDepth 100000 in
theorem nat_cut.f_eq (N : Nat) (a1 : Nat) (a2 : Nat) (a3 : List Int) :
    evFun (nat_cut.E N) nat_cut.body [.sl 0 1 a1 a2] [.ints .u32 a3] nat_cut.dec = nat_cut.f N a1 a2 a3 := by kernel_rfl
noncomputable def nat_cut.ent (N : Nat) : Entry := { A := Nat × Nat × List Int, fresh := 0, imm := [false], dec := fun args bs => match asSlL (blkAt bs) [true] args, bs with
  | [.sl 0 1 a1 a2], [.ints .u32 a3] => some (nat_cut.f N a1 a2 a3, fun r => .one (.agg [.sl 0 1 r.1 r.2.1]) [.ints .u32 r.2.2])
  | _, _ => none }
theorem nat_cut.env (N : Nat) : EnvOK Try.prog (nat_cut.E N) := ⟨(TyOK.cons ty72_ok (TyOK.cons ty74_ok (TyOK.cons ty92_ok TyOK.nil))), TabOK.nil⟩
theorem nat_cut.res_eq (N : Nat) : (nat_cut.E N).res = Try.f87.results.toList := by kernel_rfl
theorem nat_cut.k2 (N : Nat) : CutOK Try.prog Try.f87 (nat_cut.E N) (.loop nat_cut.b2) := by
  intro e hd he hh R vs H k r h
  have e1 : (nat_cut.E N).cut (loopKey nat_cut.b2) = some (nat_cut.c2 N) := by kernel_rfl
  have e2 : (nat_cut.E N).hint (loopKey nat_cut.b2) = some nat_cut.h2 := by kernel_rfl
  rw [e1] at he; rw [e2] at hh; cases he; cases hh
  unfold nat_cut.c2 at h; dsimp only at h
  split at h
  · rw [← nat_cut.l2_eq] at h
    exact loop_ok (evCode_ok (nat_cut.env N) Try_mixed (nat_cut.res_eq N) 395 nat_cut.b2 (AllCut.of (l := []) (by kernel_rfl) AllCut.nil)) h
  · cases h
theorem nat_cut.spec (N : Nat) (a1 : Nat) (a2 : Nat) (a3 : List Int) (r : Nat × Nat × List Int) (h : nat_cut.f N a1 a2 a3 = some r) : FnSpec Try.prog 87 [.sl 0 1 a1 a2] [.ints .u32 a3] (.agg [.sl 0 1 r.1 r.2.1]) ([.ints .u32 r.2.2]) := by
  rw [← nat_cut.f_eq] at h
  refine (evFun_ok (nat_cut.env N) Try_mixed Try.func87 (by kernel_rfl : Try.f87.body = some nat_cut.body) (by kernel_rfl) (nat_cut.res_eq N) (by kernel_rfl) (by kernel_rfl) (Nat.le_of_ble_eq_true (by kernel_rfl)) (AllCut.of (l := [(.loop (inner ((subLoops nat_cut.body).getD 0 .skip)))]) (by kernel_rfl) (AllCut.cons (nat_cut.k2 N) AllCut.nil)) h).of fun v bs' h1 => ?_
  unfold nat_cut.dec at h1; split at h1
  · cases h1; exact ⟨rfl, rfl⟩
  · cases h1
theorem nat_cut.ent_ok (N : Nat) : TabOK1 Try.prog 87 (nat_cut.ent N) := by
  intro args bs a enc h
  simp only [nat_cut.ent] at h
  split at h
  · rename_i hz; have h0 := Option.some.inj h; have h1 := congrArg Prod.fst h0; have h2 := congrArg Prod.snd h0; dsimp only at h1 h2; subst h2; exact FnSpec.of_asSl (fl := [true]) (by rw [hz]; exact nat_cut.spec N _ _ _ a h1)
  · cases h
/-! (parquet/nat.Nat).Bits: function 73 -/
noncomputable def nat_Nat_Bits.f (N : Nat) (a1 : List Int) : Option (Int) :=
  bif (a1.length : Int) == 0 then
    some 0
  else
  bif (decide (0 ≤ (wi64 ((a1.length : Int) - 1)))) && (decide ((wi64 ((a1.length : Int) - 1)) < (a1.length : Int))) then
    (bits_Len32.f N (a1.getD ((wi64 ((a1.length : Int) - 1)).toNat) 0)).bind fun r2 =>
    some (wi64 ((wi64 (32 * (wi64 ((a1.length : Int) - 1)))) + r2))
  else none
noncomputable def nat_Nat_Bits.body : Code := (Try.f73.body).getD .skip
noncomputable def nat_Nat_Bits.ty : List (Nat × TI) := [(72, ty72), (74, ty74), (92, ty92)]
noncomputable def nat_Nat_Bits.E (N : Nat) : Env := { ty := lookN nat_Nat_Bits.ty, tab := lookN [(65, bits_Len32.ent N)], hint := lookN [], cut := lookN [], N := N, res := [.tmp 2], rsh := [.any], nb := 0, ntmps := 22, own := false }
noncomputable def nat_Nat_Bits.dec (v : V) (bs : List Blk) : Option (Int) := match v, bs with
  | .c (.int .i64 z0), [] => some z0
  | _, _ => none
set_option maxRecDepth 100000 in
theorem nat_Nat_Bits.f_eq (N : Nat) (a1 : List Int) :
    evFun (nat_Nat_Bits.E N) nat_Nat_Bits.body [.agg [.il .u32 1 a1]] [] nat_Nat_Bits.dec = nat_Nat_Bits.f N a1 := by kernel_rfl
noncomputable def nat_Nat_Bits.ent (N : Nat) : Entry := { A := Int, fresh := 0, imm := [true], dec := fun args bs => match freezeL 0 (fun _ => .dead) [.recd [.il .u32 1]] args, bs with
  | some [.agg [.il .u32 1 a1]], [] => some (nat_Nat_Bits.f N a1, fun r => .one (.c (.int .i64 r)) [])
  | _, _ => none }
theorem nat_Nat_Bits.env (N : Nat) : EnvOK Try.prog (nat_Nat_Bits.E N) := ⟨(TyOK.cons ty72_ok (TyOK.cons ty74_ok (TyOK.cons ty92_ok TyOK.nil))), (TabOK.cons (bits_Len32.ent_ok N) TabOK.nil)⟩
theorem nat_Nat_Bits.res_eq (N : Nat) : (nat_Nat_Bits.E N).res = Try.f73.results.toList := by kernel_rfl
theorem nat_Nat_Bits.spec (N : Nat) (a1 : List Int) (r : Int) (h : nat_Nat_Bits.f N a1 = some r) : FnSpec Try.prog 73 [.agg [.il .u32 1 a1]] [] (.c (.int .i64 r)) ([]) := by
  rw [← nat_Nat_Bits.f_eq] at h
  refine (evFun_ok (nat_Nat_Bits.env N) Try_mixed Try.func73 (by kernel_rfl : Try.f73.body = some nat_Nat_Bits.body) (by kernel_rfl) (nat_Nat_Bits.res_eq N) (by kernel_rfl) (by kernel_rfl) (Nat.le_of_ble_eq_true (by kernel_rfl)) (AllCut.of (l := []) (by kernel_rfl) AllCut.nil) h).of fun v bs' h1 => ?_
  unfold nat_Nat_Bits.dec at h1; split at h1
  · cases h1; exact ⟨rfl, rfl⟩
  · cases h1
theorem nat_Nat_Bits.ent_ok (N : Nat) : TabOK1 Try.prog 73 (nat_Nat_Bits.ent N) := by
  intro args bs a enc h
  simp only [nat_Nat_Bits.ent] at h
  split at h
  · rename_i hz; have h0 := Option.some.inj h; have h1 := congrArg Prod.fst h0; have h2 := congrArg Prod.snd h0; dsimp only at h1 h2; subst h2; exact FnSpec.of_freeze hz (nat_Nat_Bits.spec N _ a h1)
  · cases h
/-! parquet/nat.Of: function 72 -/
noncomputable def nat_Of.f (N : Nat) (a1 : Int) : Option (List Int) :=
  (nat_cut.f N 0 2 [wu32 a1, wu32 (Int.fdiv a1 (2 ^ 32))]).bind fun r2 =>
  some ((r2.2.2.drop r2.1).take r2.2.1)
noncomputable def nat_Of.body : Code := (Try.f72.body).getD .skip
noncomputable def nat_Of.ty : List (Nat × TI) := [(72, ty72), (74, ty74), (92, ty92), (94, ty94)]
noncomputable def nat_Of.E (N : Nat) : Env := { ty := lookN nat_Of.ty, tab := lookN [(87, nat_cut.ent N)], hint := lookN [], cut := lookN [], N := N, res := [.cell 2 74], rsh := [.recd [.il .u32 1]], nb := 0, ntmps := 10, own := false }
noncomputable def nat_Of.dec (v : V) (bs : List Blk) : Option (List Int) := match v, bs with
  | .agg [.il .u32 1 z0], [] => some z0
  | _, _ => none
set_option maxRecDepth 100000 in
theorem nat_Of.f_eq (N : Nat) (a1 : Int) :
    evFun (nat_Of.E N) nat_Of.body [.c (.int .u64 a1)] [] nat_Of.dec = nat_Of.f N a1 := by kernel_rfl
noncomputable def nat_Of.ent (N : Nat) : Entry := { A := List Int, fresh := 0, imm := [true], dec := fun args bs => match freezeL 0 (fun _ => .dead) [.any] args, bs with
  | some [.c (.int .u64 a1)], [] => some (nat_Of.f N a1, fun r => .one (.agg [.il .u32 1 r]) [])
  | _, _ => none }
theorem nat_Of.env (N : Nat) : EnvOK Try.prog (nat_Of.E N) := ⟨(TyOK.cons ty72_ok (TyOK.cons ty74_ok (TyOK.cons ty92_ok (TyOK.cons ty94_ok TyOK.nil)))), (TabOK.cons (nat_cut.ent_ok N) TabOK.nil)⟩
theorem nat_Of.res_eq (N : Nat) : (nat_Of.E N).res = Try.f72.results.toList := by kernel_rfl
theorem nat_Of.spec (N : Nat) (a1 : Int) (r : List Int) (h : nat_Of.f N a1 = some r) : FnSpec Try.prog 72 [.c (.int .u64 a1)] [] (.agg [.il .u32 1 r]) ([]) := by
  rw [← nat_Of.f_eq] at h
  refine (evFun_ok (nat_Of.env N) Try_mixed Try.func72 (by kernel_rfl : Try.f72.body = some nat_Of.body) (by kernel_rfl) (nat_Of.res_eq N) (by kernel_rfl) (by kernel_rfl) (Nat.le_of_ble_eq_true (by kernel_rfl)) (AllCut.of (l := []) (by kernel_rfl) AllCut.nil) h).of fun v bs' h1 => ?_
  unfold nat_Of.dec at h1; split at h1
  · cases h1; exact ⟨rfl, rfl⟩
  · cases h1
theorem nat_Of.ent_ok (N : Nat) : TabOK1 Try.prog 72 (nat_Of.ent N) := by
  intro args bs a enc h
  simp only [nat_Of.ent] at h
  split at h
  · rename_i hz; have h0 := Option.some.inj h; have h1 := congrArg Prod.fst h0; have h2 := congrArg Prod.snd h0; dsimp only at h1 h2; subst h2; exact FnSpec.of_freeze hz (nat_Of.spec N _ a h1)
  · cases h
/-! (parquet/nat.Nat).Uint64: function 74 -/
noncomputable def nat_Nat_Uint64.f (N : Nat) (a1 : List Int) : Option (Int × Bool) :=
  bif (a1.length : Int) == 0 then
    some (0, true)
  else
  bif (a1.length : Int) == 1 then
    bif decide (0 < (a1.length : Int)) then
      some (wu64 (a1.getD 0 0), true)
    else none
  else
  bif (a1.length : Int) == 2 then
    bif decide (1 < (a1.length : Int)) then
      bif decide (0 < (a1.length : Int)) then
        some (bit_or .u64 (wu64 ((wu64 (a1.getD 1 0)) * 2 ^ 32)) (wu64 (a1.getD 0 0)), true)
      else none
    else none
  else
  some (0, false)
noncomputable def nat_Nat_Uint64.body : Code := (Try.f74.body).getD .skip
noncomputable def nat_Nat_Uint64.ty : List (Nat × TI) := [(72, ty72), (74, ty74), (92, ty92), (94, ty94)]
noncomputable def nat_Nat_Uint64.E (N : Nat) : Env := { ty := lookN nat_Nat_Uint64.ty, tab := lookN [], hint := lookN [], cut := lookN [], N := N, res := [.tmp 2, .tmp 3], rsh := [.any, .any], nb := 0, ntmps := 30, own := false }
noncomputable def nat_Nat_Uint64.dec (v : V) (bs : List Blk) : Option (Int × Bool) := match v, bs with
  | .tup [.c (.int .u64 z0), .c (.bool z1)], [] => some (z0, z1)
  | _, _ => none
set_option maxRecDepth 100000 in
theorem nat_Nat_Uint64.f_eq (N : Nat) (a1 : List Int) :
    evFun (nat_Nat_Uint64.E N) nat_Nat_Uint64.body [.agg [.il .u32 1 a1]] [] nat_Nat_Uint64.dec = nat_Nat_Uint64.f N a1 := by kernel_rfl
noncomputable def nat_Nat_Uint64.ent (N : Nat) : Entry := { A := Int × Bool, fresh := 0, imm := [true], dec := fun args bs => match freezeL 0 (fun _ => .dead) [.recd [.il .u32 1]] args, bs with
  | some [.agg [.il .u32 1 a1]], [] => some (nat_Nat_Uint64.f N a1, fun r => .one (.tup [.c (.int .u64 r.1), .c (.bool r.2)]) [])
  | _, _ => none }
theorem nat_Nat_Uint64.env (N : Nat) : EnvOK Try.prog (nat_Nat_Uint64.E N) := ⟨(TyOK.cons ty72_ok (TyOK.cons ty74_ok (TyOK.cons ty92_ok (TyOK.cons ty94_ok TyOK.nil)))), TabOK.nil⟩
theorem nat_Nat_Uint64.res_eq (N : Nat) : (nat_Nat_Uint64.E N).res = Try.f74.results.toList := by kernel_rfl
theorem nat_Nat_Uint64.spec (N : Nat) (a1 : List Int) (r : Int × Bool) (h : nat_Nat_Uint64.f N a1 = some r) : FnSpec Try.prog 74 [.agg [.il .u32 1 a1]] [] (.tup [.c (.int .u64 r.1), .c (.bool r.2)]) ([]) := by
  rw [← nat_Nat_Uint64.f_eq] at h
  refine (evFun_ok (nat_Nat_Uint64.env N) Try_mixed Try.func74 (by kernel_rfl : Try.f74.body = some nat_Nat_Uint64.body) (by kernel_rfl) (nat_Nat_Uint64.res_eq N) (by kernel_rfl) (by kernel_rfl) (Nat.le_of_ble_eq_true (by kernel_rfl)) (AllCut.of (l := []) (by kernel_rfl) AllCut.nil) h).of fun v bs' h1 => ?_
  unfold nat_Nat_Uint64.dec at h1; split at h1
  · cases h1; exact ⟨rfl, rfl⟩
  · cases h1
theorem nat_Nat_Uint64.ent_ok (N : Nat) : TabOK1 Try.prog 74 (nat_Nat_Uint64.ent N) := by
  intro args bs a enc h
  simp only [nat_Nat_Uint64.ent] at h
  split at h
  · rename_i hz; have h0 := Option.some.inj h; have h1 := congrArg Prod.fst h0; have h2 := congrArg Prod.snd h0; dsimp only at h1 h2; subst h2; exact FnSpec.of_freeze hz (nat_Nat_Uint64.spec N _ a h1)
  · cases h
/-! (parquet/nat.Nat).fits: function 100 -/
noncomputable def nat_Nat_fits.f (N : Nat) (a1 : List Int) : Option (List Int × Int) :=
  (nat_Nat_Bits.f N a1).bind fun r2 =>
  bif decide (r2 > 4096) then
    some ([], 3)
  else
  some (a1, 0)
noncomputable def nat_Nat_fits.body : Code := (Try.f100.body).getD .skip
noncomputable def nat_Nat_fits.ty : List (Nat × TI) := [(72, ty72), (74, ty74)]
noncomputable def nat_Nat_fits.E (N : Nat) : Env := { ty := lookN nat_Nat_fits.ty, tab := lookN [(73, nat_Nat_Bits.ent N)], hint := lookN [], cut := lookN [], N := N, res := [.cell 2 74, .tmp 3], rsh := [.recd [.il .u32 1], .any], nb := 0, ntmps := 9, own := false }
noncomputable def nat_Nat_fits.dec (v : V) (bs : List Blk) : Option (List Int × Int) := match v, bs with
  | .tup [.agg [.il .u32 1 z0], .c (.int .i64 z1)], [] => some (z0, z1)
  | _, _ => none
set_option maxRecDepth 100000 in
theorem nat_Nat_fits.f_eq (N : Nat) (a1 : List Int) :
    evFun (nat_Nat_fits.E N) nat_Nat_fits.body [.agg [.il .u32 1 a1]] [] nat_Nat_fits.dec = nat_Nat_fits.f N a1 := by kernel_rfl
noncomputable def nat_Nat_fits.ent (N : Nat) : Entry := { A := List Int × Int, fresh := 0, imm := [true], dec := fun args bs => match freezeL 0 (fun _ => .dead) [.recd [.il .u32 1]] args, bs with
  | some [.agg [.il .u32 1 a1]], [] => some (nat_Nat_fits.f N a1, fun r => .one (.tup [.agg [.il .u32 1 r.1], .c (.int .i64 r.2)]) [])
  | _, _ => none }
theorem nat_Nat_fits.env (N : Nat) : EnvOK Try.prog (nat_Nat_fits.E N) := ⟨(TyOK.cons ty72_ok (TyOK.cons ty74_ok TyOK.nil)), (TabOK.cons (nat_Nat_Bits.ent_ok N) TabOK.nil)⟩
theorem nat_Nat_fits.res_eq (N : Nat) : (nat_Nat_fits.E N).res = Try.f100.results.toList := by kernel_rfl
theorem nat_Nat_fits.spec (N : Nat) (a1 : List Int) (r : List Int × Int) (h : nat_Nat_fits.f N a1 = some r) : FnSpec Try.prog 100 [.agg [.il .u32 1 a1]] [] (.tup [.agg [.il .u32 1 r.1], .c (.int .i64 r.2)]) ([]) := by
  rw [← nat_Nat_fits.f_eq] at h
  refine (evFun_ok (nat_Nat_fits.env N) Try_mixed Try.func100 (by kernel_rfl : Try.f100.body = some nat_Nat_fits.body) (by kernel_rfl) (nat_Nat_fits.res_eq N) (by kernel_rfl) (by kernel_rfl) (Nat.le_of_ble_eq_true (by kernel_rfl)) (AllCut.of (l := []) (by kernel_rfl) AllCut.nil) h).of fun v bs' h1 => ?_
  unfold nat_Nat_fits.dec at h1; split at h1
  · cases h1; exact ⟨rfl, rfl⟩
  · cases h1
theorem nat_Nat_fits.ent_ok (N : Nat) : TabOK1 Try.prog 100 (nat_Nat_fits.ent N) := by
  intro args bs a enc h
  simp only [nat_Nat_fits.ent] at h
  split at h
  · rename_i hz; have h0 := Option.some.inj h; have h1 := congrArg Prod.fst h0; have h2 := congrArg Prod.snd h0; dsimp only at h1 h2; subst h2; exact FnSpec.of_freeze hz (nat_Nat_fits.spec N _ a h1)
  · cases h
/-! parquet/nat.Cmp: function 89 -/
noncomputable def nat_Cmp.l6 {R : Type} (N : Nat) : Nat → Int → List Int → List Int → (Unit → Option R) → (Int → Option R) → Option R
  | 0, _, _, _, _, _ => none
  | n + 1, x3, x4, x5, k0, kr =>
    bif decide (x3 ≥ 0) then
      bif (decide (0 ≤ x3)) && (decide (x3 < (x4.length : Int))) then
        bif (decide (0 ≤ x3)) && (decide (x3 < (x5.length : Int))) then
          bif decide ((x4.getD x3.toNat 0) < (x5.getD x3.toNat 0)) then
            kr (-1)
          else
          bif (decide (0 ≤ x3)) && (decide (x3 < (x4.length : Int))) then
            bif (decide (0 ≤ x3)) && (decide (x3 < (x5.length : Int))) then
              bif decide ((x4.getD x3.toNat 0) > (x5.getD x3.toNat 0)) then
                kr 1
              else
              nat_Cmp.l6 N n (wi64 (x3 - 1)) x4 x5 k0 kr
            else none
          else none
        else none
      else none
    else
    k0 ()
noncomputable def nat_Cmp.f (N : Nat) (a1 : List Int) (a2 : List Int) : Option (Int) :=
  bif (a1.length : Int) != (a2.length : Int) then
    bif decide ((a1.length : Int) < (a2.length : Int)) then
      some (-1)
    else
    some 1
  else
  nat_Cmp.l6 N N (wi64 ((a1.length : Int) - 1)) a1 a2
    (fun (_ : Unit) =>
      some 0)
    (fun y7 =>
      some y7)
noncomputable def nat_Cmp.body : Code := (Try.f89.body).getD .skip
noncomputable def nat_Cmp.ty : List (Nat × TI) := [(72, ty72), (74, ty74), (92, ty92)]
noncomputable def nat_Cmp.h6 : Hint := ⟨[(2, .box [.il .u32 1]), (3, .box [.il .u32 1]), (5, .any)], []⟩
noncomputable def nat_Cmp.c6 (N : Nat) : Cut := ⟨fun vs H k => match vs, H with
  | [.ptr 0 0 1, .ptr 1 0 1, .c (.int .i64 x3)], [.vals [.il .u32 1 x4], .vals [.il .u32 1 x5]] => nat_Cmp.l6 N N x3 x4 x5 (fun (_ : Unit) => k (.exit 0) ⟨mkT nat_Cmp.h6.out [], []⟩) (fun x6 => k (.ret (.c (.int .i64 x6)) []) .nil)
  | _, _ => none⟩
noncomputable def nat_Cmp.E (N : Nat) : Env := { ty := lookN nat_Cmp.ty, tab := lookN [], hint := lookN [(6, nat_Cmp.h6)], cut := lookN [(6, nat_Cmp.c6 N)], N := N, res := [.tmp 4], rsh := [.any], nb := 0, ntmps := 52, own := false }
noncomputable def nat_Cmp.b6 : Code := inner ((subLoops nat_Cmp.body).getD 0 .skip)
set_option maxRecDepth 100000 in
theorem nat_Cmp.l6_eq {R : Type} (N n : Nat) (x3 : Int) (x4 : List Int) (x5 : List Int) (k : Ex → St → Option R) :
    evLoop 0 nat_Cmp.h6 (fun s k => evCode (nat_Cmp.E N) 394 nat_Cmp.b6 s k) n [.ptr 0 0 1, .ptr 1 0 1, .c (.int .i64 x3)] [.vals [.il .u32 1 x4], .vals [.il .u32 1 x5]] k = nat_Cmp.l6 N n x3 x4 x5 (fun (_ : Unit) => k (.exit 0) ⟨mkT nat_Cmp.h6.out [], []⟩) (fun x6 => k (.ret (.c (.int .i64 x6)) []) .nil) := by
  induction n generalizing x3 x4 x5 with
  | zero => kernel_rfl
  | succ n ih =>
    simp only [nat_Cmp.l6, ← ih]
    kernel_rfl
noncomputable def nat_Cmp.dec (v : V) (bs : List Blk) : Option (Int) := match v, bs with
  | .c (.int .i64 z0), [] => some z0
  | _, _ => none
set_option maxRecDepth 100000 in
theorem nat_Cmp.f_eq (N : Nat) (a1 : List Int) (a2 : List Int) :
    evFun (nat_Cmp.E N) nat_Cmp.body [.agg [.il .u32 1 a1], .agg [.il .u32 1 a2]] [] nat_Cmp.dec = nat_Cmp.f N a1 a2 := by kernel_rfl
noncomputable def nat_Cmp.ent (N : Nat) : Entry := { A := Int, fresh := 0, imm := [true, true], dec := fun args bs => match freezeL 0 (fun _ => .dead) [.recd [.il .u32 1], .recd [.il .u32 1]] args, bs with
  | some [.agg [.il .u32 1 a1], .agg [.il .u32 1 a2]], [] => some (nat_Cmp.f N a1 a2, fun r => .one (.c (.int .i64 r)) [])
  | _, _ => none }
theorem nat_Cmp.env (N : Nat) : EnvOK Try.prog (nat_Cmp.E N) := ⟨(TyOK.cons ty72_ok (TyOK.cons ty74_ok (TyOK.cons ty92_ok TyOK.nil))), TabOK.nil⟩
theorem nat_Cmp.res_eq (N : Nat) : (nat_Cmp.E N).res = Try.f89.results.toList := by kernel_rfl
theorem nat_Cmp.k6 (N : Nat) : CutOK Try.prog Try.f89 (nat_Cmp.E N) (.loop nat_Cmp.b6) := by
  intro e hd he hh R vs H k r h
  have e1 : (nat_Cmp.E N).cut (loopKey nat_Cmp.b6) = some (nat_Cmp.c6 N) := by kernel_rfl
  have e2 : (nat_Cmp.E N).hint (loopKey nat_Cmp.b6) = some nat_Cmp.h6 := by kernel_rfl
  rw [e1] at he; rw [e2] at hh; cases he; cases hh
  unfold nat_Cmp.c6 at h; dsimp only at h
  split at h
  · rw [← nat_Cmp.l6_eq] at h
    exact loop_ok (evCode_ok (nat_Cmp.env N) Try_mixed (nat_Cmp.res_eq N) 394 nat_Cmp.b6 (AllCut.of (l := []) (by kernel_rfl) AllCut.nil)) h
  · cases h
theorem nat_Cmp.spec (N : Nat) (a1 : List Int) (a2 : List Int) (r : Int) (h : nat_Cmp.f N a1 a2 = some r) : FnSpec Try.prog 89 [.agg [.il .u32 1 a1], .agg [.il .u32 1 a2]] [] (.c (.int .i64 r)) ([]) := by
  rw [← nat_Cmp.f_eq] at h
  refine (evFun_ok (nat_Cmp.env N) Try_mixed Try.func89 (by kernel_rfl : Try.f89.body = some nat_Cmp.body) (by kernel_rfl) (nat_Cmp.res_eq N) (by kernel_rfl) (by kernel_rfl) (Nat.le_of_ble_eq_true (by kernel_rfl)) (AllCut.of (l := [(.loop (inner ((subLoops nat_Cmp.body).getD 0 .skip)))]) (by kernel_rfl) (AllCut.cons (nat_Cmp.k6 N) AllCut.nil)) h).of fun v bs' h1 => ?_
  unfold nat_Cmp.dec at h1; split at h1
  · cases h1; exact ⟨rfl, rfl⟩
  · cases h1
theorem nat_Cmp.ent_ok (N : Nat) : TabOK1 Try.prog 89 (nat_Cmp.ent N) := by
  intro args bs a enc h
  simp only [nat_Cmp.ent] at h
  split at h
  · rename_i hz; have h0 := Option.some.inj h; have h1 := congrArg Prod.fst h0; have h2 := congrArg Prod.snd h0; dsimp only at h1 h2; subst h2; exact FnSpec.of_freeze hz (nat_Cmp.spec N _ _ a h1)
  · cases h
/-! parquet/nat.Add: function 93 -/
noncomputable def nat_Add.l7 {R : Type} (N : Nat) : Nat → Int → Int → Int → List Int → List Int → (List Int → Option R) → Option R
  | 0, _, _, _, _, _, _ => none
  | n + 1, x3, x4, x5, x6, x7, k0 =>
    bif decide (x5 < x4) then
      bif (decide (0 ≤ x5)) && (decide (x5 < (x7.length : Int))) then
        bif decide (x5 < (x6.length : Int)) then
          bif (decide (0 ≤ x5)) && (decide (x5 < (x6.length : Int))) then
            bif (decide (0 ≤ x5)) && (decide (x5 < (x7.length : Int))) then
              nat_Add.l7 N n (Int.fdiv (wu64 ((wu64 (x3 + (wu64 (x7.getD x5.toNat 0)))) + (wu64 (x6.getD x5.toNat 0)))) (2 ^ 32)) x4 (wi64 (x5 + 1)) x6 (x7.set x5.toNat (wu32 (wu64 ((wu64 (x3 + (wu64 (x7.getD x5.toNat 0)))) + (wu64 (x6.getD x5.toNat 0)))))) k0
            else none
          else none
        else
        bif (decide (0 ≤ x5)) && (decide (x5 < (x7.length : Int))) then
          nat_Add.l7 N n (Int.fdiv (wu64 (x3 + (wu64 (x7.getD x5.toNat 0)))) (2 ^ 32)) x4 (wi64 (x5 + 1)) x6 (x7.set x5.toNat (wu32 (wu64 (x3 + (wu64 (x7.getD x5.toNat 0)))))) k0
        else none
      else none
    else
    k0 x7
noncomputable def nat_Add.f (N : Nat) (a1 : List Int) (a2 : List Int) : Option (List Int × Int) :=
  bif decide ((a1.length : Int) < (a2.length : Int)) then
    bif decide (wi64 ((a2.length : Int) + 1) = wi64 ((a2.length : Int) + 1)) && decide (0 ≤ wi64 ((a2.length : Int) + 1)) && decide (wi64 ((a2.length : Int) + 1) ≤ 9223372036854775807) && roomy ((wi64 ((a2.length : Int) + 1)).toNat) 4 then
      nat_Add.l7 N N 0 ((splice (List.replicate ((wi64 ((a2.length : Int) + 1)).toNat) (0 : Int)) 0 (a2.take (min a2.length ((List.replicate ((wi64 ((a2.length : Int) + 1)).toNat) (0 : Int)).length)))).length : Int) 0 a1 (splice (List.replicate ((wi64 ((a2.length : Int) + 1)).toNat) (0 : Int)) 0 (a2.take (min a2.length ((List.replicate ((wi64 ((a2.length : Int) + 1)).toNat) (0 : Int)).length))))
        (fun y9 =>
          (nat_cut.f N 0 y9.length y9).bind fun r10 =>
          (nat_Nat_fits.f N ((r10.2.2.drop r10.1).take r10.2.1)).bind fun r11 =>
          some (r11.1, r11.2))
    else none
  else
  bif decide (wi64 ((a1.length : Int) + 1) = wi64 ((a1.length : Int) + 1)) && decide (0 ≤ wi64 ((a1.length : Int) + 1)) && decide (wi64 ((a1.length : Int) + 1) ≤ 9223372036854775807) && roomy ((wi64 ((a1.length : Int) + 1)).toNat) 4 then
    nat_Add.l7 N N 0 ((splice (List.replicate ((wi64 ((a1.length : Int) + 1)).toNat) (0 : Int)) 0 (a1.take (min a1.length ((List.replicate ((wi64 ((a1.length : Int) + 1)).toNat) (0 : Int)).length)))).length : Int) 0 a2 (splice (List.replicate ((wi64 ((a1.length : Int) + 1)).toNat) (0 : Int)) 0 (a1.take (min a1.length ((List.replicate ((wi64 ((a1.length : Int) + 1)).toNat) (0 : Int)).length))))
      (fun y12 =>
        (nat_cut.f N 0 y12.length y12).bind fun r13 =>
        (nat_Nat_fits.f N ((r13.2.2.drop r13.1).take r13.2.1)).bind fun r14 =>
        some (r14.1, r14.2))
  else none
noncomputable def nat_Add.body : Code := (Try.f93.body).getD .skip
noncomputable def nat_Add.ty : List (Nat × TI) := [(72, ty72), (74, ty74), (92, ty92), (94, ty94)]
noncomputable def nat_Add.h7 : Hint := ⟨[(3, .box [.il .u32 1]), (4, .box [.any]), (6, .row .u32 1), (7, .any), (28, .any), (29, .any)], [(4, .box [.any]), (6, .row .u32 1)]⟩
noncomputable def nat_Add.c7 (N : Nat) : Cut := ⟨fun vs H k => match vs, H with
  | [.ptr 0 0 1, .ptr 1 0 1, .sw 2 1, .c (.int .u64 x3), .c (.int .i64 x4), .c (.int .i64 x5)], [.vals [.il .u32 1 x6], .vals [.c (.slice none 0 0)], .ints .u32 x7] => nat_Add.l7 N N x3 x4 x5 x6 x7 (fun x8 => k (.exit 0) ⟨mkT nat_Add.h7.out [.ptr 0 0 1, .sw 1 1], [.vals [.c (.slice none 0 0)], .ints .u32 x8]⟩)
  | _, _ => none⟩
noncomputable def nat_Add.E (N : Nat) : Env := { ty := lookN nat_Add.ty, tab := lookN [(87, nat_cut.ent N), (100, nat_Nat_fits.ent N)], hint := lookN [(7, nat_Add.h7)], cut := lookN [(7, nat_Add.c7 N)], N := N, res := [.cell 4 74, .tmp 5], rsh := [.recd [.il .u32 1], .any], nb := 0, ntmps := 65, own := false }
noncomputable def nat_Add.b7 : Code := inner ((subLoops nat_Add.body).getD 0 .skip)
set_option maxRecDepth 100000 in
theorem nat_Add.l7_eq {R : Type} (N n : Nat) (x3 : Int) (x4 : Int) (x5 : Int) (x6 : List Int) (x7 : List Int) (k : Ex → St → Option R) :
    evLoop 0 nat_Add.h7 (fun s k => evCode (nat_Add.E N) 391 nat_Add.b7 s k) n [.ptr 0 0 1, .ptr 1 0 1, .sw 2 1, .c (.int .u64 x3), .c (.int .i64 x4), .c (.int .i64 x5)] [.vals [.il .u32 1 x6], .vals [.c (.slice none 0 0)], .ints .u32 x7] k = nat_Add.l7 N n x3 x4 x5 x6 x7 (fun x8 => k (.exit 0) ⟨mkT nat_Add.h7.out [.ptr 0 0 1, .sw 1 1], [.vals [.c (.slice none 0 0)], .ints .u32 x8]⟩) := by
  induction n generalizing x3 x4 x5 x6 x7 with
  | zero => kernel_rfl
  | succ n ih =>
    simp only [nat_Add.l7, ← ih]
    kernel_rfl
noncomputable def nat_Add.dec (v : V) (bs : List Blk) : Option (List Int × Int) := match v, bs with
  | .tup [.agg [.il .u32 1 z0], .c (.int .i64 z1)], [] => some (z0, z1)
  | _, _ => none
set_option maxRecDepth 100000 in
theorem nat_Add.f_eq (N : Nat) (a1 : List Int) (a2 : List Int) :
    evFun (nat_Add.E N) nat_Add.body [.agg [.il .u32 1 a1], .agg [.il .u32 1 a2]] [] nat_Add.dec = nat_Add.f N a1 a2 := by kernel_rfl
noncomputable def nat_Add.ent (N : Nat) : Entry := { A := List Int × Int, fresh := 0, imm := [true, true], dec := fun args bs => match freezeL 0 (fun _ => .dead) [.recd [.il .u32 1], .recd [.il .u32 1]] args, bs with
  | some [.agg [.il .u32 1 a1], .agg [.il .u32 1 a2]], [] => some (nat_Add.f N a1 a2, fun r => .one (.tup [.agg [.il .u32 1 r.1], .c (.int .i64 r.2)]) [])
  | _, _ => none }
theorem nat_Add.env (N : Nat) : EnvOK Try.prog (nat_Add.E N) := ⟨(TyOK.cons ty72_ok (TyOK.cons ty74_ok (TyOK.cons ty92_ok (TyOK.cons ty94_ok TyOK.nil)))), (TabOK.cons (nat_cut.ent_ok N) (TabOK.cons (nat_Nat_fits.ent_ok N) TabOK.nil))⟩
theorem nat_Add.res_eq (N : Nat) : (nat_Add.E N).res = Try.f93.results.toList := by kernel_rfl
theorem nat_Add.k7 (N : Nat) : CutOK Try.prog Try.f93 (nat_Add.E N) (.loop nat_Add.b7) := by
  intro e hd he hh R vs H k r h
  have e1 : (nat_Add.E N).cut (loopKey nat_Add.b7) = some (nat_Add.c7 N) := by kernel_rfl
  have e2 : (nat_Add.E N).hint (loopKey nat_Add.b7) = some nat_Add.h7 := by kernel_rfl
  rw [e1] at he; rw [e2] at hh; cases he; cases hh
  unfold nat_Add.c7 at h; dsimp only at h
  split at h
  · rw [← nat_Add.l7_eq] at h
    exact loop_ok (evCode_ok (nat_Add.env N) Try_mixed (nat_Add.res_eq N) 391 nat_Add.b7 (AllCut.of (l := []) (by kernel_rfl) AllCut.nil)) h
  · cases h
theorem nat_Add.spec (N : Nat) (a1 : List Int) (a2 : List Int) (r : List Int × Int) (h : nat_Add.f N a1 a2 = some r) : FnSpec Try.prog 93 [.agg [.il .u32 1 a1], .agg [.il .u32 1 a2]] [] (.tup [.agg [.il .u32 1 r.1], .c (.int .i64 r.2)]) ([]) := by
  rw [← nat_Add.f_eq] at h
  refine (evFun_ok (nat_Add.env N) Try_mixed Try.func93 (by kernel_rfl : Try.f93.body = some nat_Add.body) (by kernel_rfl) (nat_Add.res_eq N) (by kernel_rfl) (by kernel_rfl) (Nat.le_of_ble_eq_true (by kernel_rfl)) (AllCut.of (l := [(.loop (inner ((subLoops nat_Add.body).getD 0 .skip)))]) (by kernel_rfl) (AllCut.cons (nat_Add.k7 N) AllCut.nil)) h).of fun v bs' h1 => ?_
  unfold nat_Add.dec at h1; split at h1
  · cases h1; exact ⟨rfl, rfl⟩
  · cases h1
theorem nat_Add.ent_ok (N : Nat) : TabOK1 Try.prog 93 (nat_Add.ent N) := by
  intro args bs a enc h
  simp only [nat_Add.ent] at h
  split at h
  · rename_i hz; have h0 := Option.some.inj h; have h1 := congrArg Prod.fst h0; have h2 := congrArg Prod.snd h0; dsimp only at h1 h2; subst h2; exact FnSpec.of_freeze hz (nat_Add.spec N _ _ a h1)
  · cases h
/-! parquet/nat.less: function 101 -/
noncomputable def nat_less.l2 {R : Type} (N : Nat) : Nat → Nat → Nat → List Int → Int → Int → Int → List Int → (List Int → Option R) → Option R
  | 0, _, _, _, _, _, _, _, _ => none
  | n + 1, x5, x6, x7, x8, x9, x10, x11, k0 =>
    bif decide (x10 < x9) then
      bif decide (x10 < (x7.length : Int)) then
        bif (decide (0 ≤ x10)) && (decide (x10 < (x7.length : Int))) then
          bif (decide (0 ≤ x10)) && (decide (x10 < (x6 : Int))) then
            (bits_Sub32.f N (x11.getD (x5 + x10.toNat) 0) (x7.getD x10.toNat 0) x8).bind fun r12 =>
            bif (decide (0 ≤ x10)) && (decide (x10 < (x6 : Int))) then
              nat_less.l2 N n x5 x6 x7 r12.2 x9 (wi64 (x10 + 1)) (x11.set (x5 + x10.toNat) r12.1) k0
            else none
          else none
        else none
      else
      bif x8 == 0 then
        k0 x11
      else
      bif (decide (0 ≤ x10)) && (decide (x10 < (x6 : Int))) then
        (bits_Sub32.f N (x11.getD (x5 + x10.toNat) 0) 0 x8).bind fun r14 =>
        bif (decide (0 ≤ x10)) && (decide (x10 < (x6 : Int))) then
          nat_less.l2 N n x5 x6 x7 r14.2 x9 (wi64 (x10 + 1)) (x11.set (x5 + x10.toNat) r14.1) k0
        else none
      else none
    else
    k0 x11
noncomputable def nat_less.f (N : Nat) (a1 : Nat) (a2 : Nat) (a3 : List Int) (a4 : List Int) : Option (List Int) :=
  nat_less.l2 N N a1 a2 a3 0 (a2 : Int) 0 a4
    (fun y15 =>
      some y15)
noncomputable def nat_less.body : Code := (Try.f101.body).getD .skip
noncomputable def nat_less.ty : List (Nat × TI) := [(72, ty72), (92, ty92)]
noncomputable def nat_less.h2 : Hint := ⟨[(0, .any), (1, .il .u32 1), (4, .any), (8, .any), (9, .any)], []⟩
noncomputable def nat_less.c2 (N : Nat) : Cut := ⟨fun vs H k => match vs, H with
  | [.sl 0 1 x5 x6, .il .u32 1 x7, .c (.int .u32 x8), .c (.int .i64 x9), .c (.int .i64 x10)], [.ints .u32 x11] => nat_less.l2 N N x5 x6 x7 x8 x9 x10 x11 (fun x13 => k (.exit 0) ⟨mkT nat_less.h2.out [], [.ints .u32 x13]⟩)
  | _, _ => none⟩
noncomputable def nat_less.E (N : Nat) : Env := { ty := lookN nat_less.ty, tab := lookN [(102, bits_Sub32.ent N)], hint := lookN [(2, nat_less.h2)], cut := lookN [(2, nat_less.c2 N)], N := N, res := [], rsh := [], nb := 1, ntmps := 36, own := false }
noncomputable def nat_less.b2 : Code := inner ((subLoops nat_less.body).getD 1 .skip)
set_option maxRecDepth 100000 in
theorem nat_less.l2_eq {R : Type} (N n : Nat) (x5 : Nat) (x6 : Nat) (x7 : List Int) (x8 : Int) (x9 : Int) (x10 : Int) (x11 : List Int) (k : Ex → St → Option R) :
    evLoop 1 nat_less.h2 (fun s k => evCode (nat_less.E N) 394 nat_less.b2 s k) n [.sl 0 1 x5 x6, .il .u32 1 x7, .c (.int .u32 x8), .c (.int .i64 x9), .c (.int .i64 x10)] [.ints .u32 x11] k = nat_less.l2 N n x5 x6 x7 x8 x9 x10 x11 (fun x13 => k (.exit 0) ⟨mkT nat_less.h2.out [], [.ints .u32 x13]⟩) := by
  induction n generalizing x5 x6 x7 x8 x9 x10 x11 with
  | zero => kernel_rfl
  | succ n ih =>
    simp only [nat_less.l2, ← ih]
    kernel_rfl
noncomputable def nat_less.dec (v : V) (bs : List Blk) : Option (List Int) := match v, bs with
  | .tup [], [.ints .u32 z0] => some z0
  | _, _ => none
set_option maxRecDepth 100000 in
theorem nat_less.f_eq (N : Nat) (a1 : Nat) (a2 : Nat) (a3 : List Int) (a4 : List Int) :
    evFun (nat_less.E N) nat_less.body [.sl 0 1 a1 a2, .il .u32 1 a3] [.ints .u32 a4] nat_less.dec = nat_less.f N a1 a2 a3 a4 := by kernel_rfl
noncomputable def nat_less.ent (N : Nat) : Entry := { A := List Int, fresh := 0, imm := [false, true], dec := fun args bs => match asSlL (blkAt bs) [true, false] args, bs with
  | [.sl 0 1 a1 a2, .il .u32 1 a3], [.ints .u32 a4] => some (nat_less.f N a1 a2 a3 a4, fun r => .one (.tup []) [.ints .u32 r])
  | _, _ => none }
theorem nat_less.env (N : Nat) : EnvOK Try.prog (nat_less.E N) := ⟨(TyOK.cons ty72_ok (TyOK.cons ty92_ok TyOK.nil)), (TabOK.cons (bits_Sub32.ent_ok N) TabOK.nil)⟩
theorem nat_less.res_eq (N : Nat) : (nat_less.E N).res = Try.f101.results.toList := by kernel_rfl
theorem nat_less.k2 (N : Nat) : CutOK Try.prog Try.f101 (nat_less.E N) (.loop nat_less.b2) := by
  intro e hd he hh R vs H k r h
  have e1 : (nat_less.E N).cut (loopKey nat_less.b2) = some (nat_less.c2 N) := by kernel_rfl
  have e2 : (nat_less.E N).hint (loopKey nat_less.b2) = some nat_less.h2 := by kernel_rfl
  rw [e1] at he; rw [e2] at hh; cases he; cases hh
  unfold nat_less.c2 at h; dsimp only at h
  split at h
  · rw [← nat_less.l2_eq] at h
    exact loop_ok (evCode_ok (nat_less.env N) Try_mixed (nat_less.res_eq N) 394 nat_less.b2 (AllCut.of (l := []) (by kernel_rfl) AllCut.nil)) h
  · cases h
theorem nat_less.spec (N : Nat) (a1 : Nat) (a2 : Nat) (a3 : List Int) (a4 : List Int) (r : List Int) (h : nat_less.f N a1 a2 a3 a4 = some r) : FnSpec Try.prog 101 [.sl 0 1 a1 a2, .il .u32 1 a3] [.ints .u32 a4] (.tup []) ([.ints .u32 r]) := by
  rw [← nat_less.f_eq] at h
  refine (evFun_ok (nat_less.env N) Try_mixed Try.func101 (by kernel_rfl : Try.f101.body = some nat_less.body) (by kernel_rfl) (nat_less.res_eq N) (by kernel_rfl) (by kernel_rfl) (Nat.le_of_ble_eq_true (by kernel_rfl)) (AllCut.of (l := [(.scope (inner ((subLoops nat_less.body).getD 0 .skip))), (.loop (inner ((subLoops nat_less.body).getD 1 .skip)))]) (by kernel_rfl) (AllCut.cons (cut_scope (by kernel_rfl)) (AllCut.cons (nat_less.k2 N) AllCut.nil))) h).of fun v bs' h1 => ?_
  unfold nat_less.dec at h1; split at h1
  · cases h1; exact ⟨rfl, rfl⟩
  · cases h1
theorem nat_less.ent_ok (N : Nat) : TabOK1 Try.prog 101 (nat_less.ent N) := by
  intro args bs a enc h
  simp only [nat_less.ent] at h
  split at h
  · rename_i hz; have h0 := Option.some.inj h; have h1 := congrArg Prod.fst h0; have h2 := congrArg Prod.snd h0; dsimp only at h1 h2; subst h2; exact FnSpec.of_asSl (fl := [true, false]) (by rw [hz]; exact nat_less.spec N _ _ _ _ a h1)
  · cases h
/-! parquet/nat.Sub: function 94 -/
noncomputable def nat_Sub.f (N : Nat) (a1 : List Int) (a2 : List Int) : Option (List Int × Int) :=
  (nat_Cmp.f N a1 a2).bind fun r3 =>
  bif decide (r3 < 0) then
    some ([], 10)
  else
  bif decide ((a1.length : Int) = (a1.length : Int)) && decide (0 ≤ (a1.length : Int)) && decide ((a1.length : Int) ≤ 9223372036854775807) && roomy ((a1.length : Int).toNat) 4 then
    (nat_less.f N 0 ((splice (List.replicate ((a1.length : Int).toNat) (0 : Int)) 0 (a1.take (min a1.length ((List.replicate ((a1.length : Int).toNat) (0 : Int)).length)))).length) a2 (splice (List.replicate ((a1.length : Int).toNat) (0 : Int)) 0 (a1.take (min a1.length ((List.replicate ((a1.length : Int).toNat) (0 : Int)).length))))).bind fun r4 =>
    (nat_cut.f N 0 r4.length r4).bind fun r5 =>
    some ((r5.2.2.drop r5.1).take r5.2.1, 0)
  else none
noncomputable def nat_Sub.body : Code := (Try.f94.body).getD .skip
noncomputable def nat_Sub.ty : List (Nat × TI) := [(72, ty72), (74, ty74), (92, ty92)]
noncomputable def nat_Sub.E (N : Nat) : Env := { ty := lookN nat_Sub.ty, tab := lookN [(89, nat_Cmp.ent N), (101, nat_less.ent N), (87, nat_cut.ent N)], hint := lookN [], cut := lookN [], N := N, res := [.cell 4 74, .tmp 5], rsh := [.recd [.il .u32 1], .any], nb := 0, ntmps := 26, own := false }
noncomputable def nat_Sub.dec (v : V) (bs : List Blk) : Option (List Int × Int) := match v, bs with
  | .tup [.agg [.il .u32 1 z0], .c (.int .i64 z1)], [] => some (z0, z1)
  | _, _ => none
set_option maxRecDepth 100000 in
theorem nat_Sub.f_eq (N : Nat) (a1 : List Int) (a2 : List Int) :
    evFun (nat_Sub.E N) nat_Sub.body [.agg [.il .u32 1 a1], .agg [.il .u32 1 a2]] [] nat_Sub.dec = nat_Sub.f N a1 a2 := by kernel_rfl
noncomputable def nat_Sub.ent (N : Nat) : Entry := { A := List Int × Int, fresh := 0, imm := [true, true], dec := fun args bs => match freezeL 0 (fun _ => .dead) [.recd [.il .u32 1], .recd [.il .u32 1]] args, bs with
  | some [.agg [.il .u32 1 a1], .agg [.il .u32 1 a2]], [] => some (nat_Sub.f N a1 a2, fun r => .one (.tup [.agg [.il .u32 1 r.1], .c (.int .i64 r.2)]) [])
  | _, _ => none }
theorem nat_Sub.env (N : Nat) : EnvOK Try.prog (nat_Sub.E N) := ⟨(TyOK.cons ty72_ok (TyOK.cons ty74_ok (TyOK.cons ty92_ok TyOK.nil))), (TabOK.cons (nat_Cmp.ent_ok N) (TabOK.cons (nat_less.ent_ok N) (TabOK.cons (nat_cut.ent_ok N) TabOK.nil)))⟩
theorem nat_Sub.res_eq (N : Nat) : (nat_Sub.E N).res = Try.f94.results.toList := by kernel_rfl
theorem nat_Sub.spec (N : Nat) (a1 : List Int) (a2 : List Int) (r : List Int × Int) (h : nat_Sub.f N a1 a2 = some r) : FnSpec Try.prog 94 [.agg [.il .u32 1 a1], .agg [.il .u32 1 a2]] [] (.tup [.agg [.il .u32 1 r.1], .c (.int .i64 r.2)]) ([]) := by
  rw [← nat_Sub.f_eq] at h
  refine (evFun_ok (nat_Sub.env N) Try_mixed Try.func94 (by kernel_rfl : Try.f94.body = some nat_Sub.body) (by kernel_rfl) (nat_Sub.res_eq N) (by kernel_rfl) (by kernel_rfl) (Nat.le_of_ble_eq_true (by kernel_rfl)) (AllCut.of (l := []) (by kernel_rfl) AllCut.nil) h).of fun v bs' h1 => ?_
  unfold nat_Sub.dec at h1; split at h1
  · cases h1; exact ⟨rfl, rfl⟩
  · cases h1
theorem nat_Sub.ent_ok (N : Nat) : TabOK1 Try.prog 94 (nat_Sub.ent N) := by
  intro args bs a enc h
  simp only [nat_Sub.ent] at h
  split at h
  · rename_i hz; have h0 := Option.some.inj h; have h1 := congrArg Prod.fst h0; have h2 := congrArg Prod.snd h0; dsimp only at h1 h2; subst h2; exact FnSpec.of_freeze hz (nat_Sub.spec N _ _ a h1)
  · cases h
/-! parquet/nat.product: function 99 -/
noncomputable def nat_product.l7 {R : Type} (N : Nat) : Nat → Int → Int → Int → List Int → Int → Int → List Int → Int → Int → List Int → List Int → (Int → Int → List Int → Int → Int → List Int → List Int → Option R) → Option R
  | 0, _, _, _, _, _, _, _, _, _, _, _, _ => none
  | n + 1, x8, x9, x10, x11, x12, x13, x14, x15, x16, x17, x18, k2 =>
    bif decide (x16 < x15) then
      bif (decide (0 ≤ x16)) && (decide (x16 < (x14.length : Int))) then
        bif (decide (0 ≤ (wi64 (x8 + x16)))) && (decide ((wi64 (x8 + x16)) < (x18.length : Int))) then
          bif (decide (0 ≤ (wi64 (x8 + x16)))) && (decide ((wi64 (x8 + x16)) < (x18.length : Int))) then
            nat_product.l7 N n x8 x9 (Int.fdiv (wu64 (x10 + (wu64 ((wu64 ((wu64 x9) * (wu64 (x14.getD x16.toNat 0)))) + (wu64 (x18.getD ((wi64 (x8 + x16)).toNat) 0)))))) (2 ^ 32)) x11 x12 x13 x14 x15 (wi64 (x16 + 1)) x17 (x18.set ((wi64 (x8 + x16)).toNat) (wu32 (wu64 (x10 + (wu64 ((wu64 ((wu64 x9) * (wu64 (x14.getD x16.toNat 0)))) + (wu64 (x18.getD ((wi64 (x8 + x16)).toNat) 0)))))))) k2
          else none
        else none
      else none
    else
    k2 x8 x10 x11 x12 x13 x17 x18
noncomputable def nat_product.l3 {R : Type} (N : Nat) : Nat → List Int → Int → Int → List Int → List Int → (List Int → Option R) → Option R
  | 0, _, _, _, _, _, _ => none
  | n + 1, x3, x4, x5, x6, x7, k0 =>
    bif decide (x5 < x4) then
      bif (decide (0 ≤ x5)) && (decide (x5 < (x3.length : Int))) then
        nat_product.l7 N N x5 (x3.getD x5.toNat 0) 0 x3 x4 x5 x6 (x6.length : Int) 0 x6 x7
          (fun y26 y27 y28 y29 y30 y31 y32 =>
            bif (decide (0 ≤ (wi64 (y26 + (y31.length : Int))))) && (decide ((wi64 (y26 + (y31.length : Int))) < (y32.length : Int))) then
              nat_product.l3 N n y28 y29 (wi64 (y30 + 1)) y31 (y32.set ((wi64 (y26 + (y31.length : Int))).toNat) (wu32 y27)) k0
            else none)
      else none
    else
    k0 x7
noncomputable def nat_product.f (N : Nat) (a1 : List Int) (a2 : List Int) : Option (List Int) :=
  bif decide (wi64 ((a1.length : Int) + (a2.length : Int)) = wi64 ((a1.length : Int) + (a2.length : Int))) && decide (0 ≤ wi64 ((a1.length : Int) + (a2.length : Int))) && decide (wi64 ((a1.length : Int) + (a2.length : Int)) ≤ 9223372036854775807) && roomy ((wi64 ((a1.length : Int) + (a2.length : Int))).toNat) 4 then
    nat_product.l3 N N a1 (a1.length : Int) 0 a2 (List.replicate ((wi64 ((a1.length : Int) + (a2.length : Int))).toNat) (0 : Int))
      (fun y34 =>
        (nat_cut.f N 0 y34.length y34).bind fun r35 =>
        some ((r35.2.2.drop r35.1).take r35.2.1))
  else none
noncomputable def nat_product.body : Code := (Try.f99.body).getD .skip
noncomputable def nat_product.ty : List (Nat × TI) := [(72, ty72), (74, ty74), (92, ty92), (94, ty94)]
noncomputable def nat_product.h3 : Hint := ⟨[(3, .box [.il .u32 1]), (4, .box [.any]), (5, .row .u32 1), (20, .il .u32 1), (21, .any), (22, .any)], [(4, .box [.any]), (5, .row .u32 1)]⟩
noncomputable def nat_product.h7 : Hint := ⟨[(3, .box [.il .u32 1]), (4, .box [.any]), (5, .row .u32 1), (6, .any), (7, .any), (8, .any), (20, .il .u32 1), (21, .any), (22, .any), (28, .il .u32 1), (29, .any), (30, .any)], [(3, .box [.il .u32 1]), (4, .box [.any]), (5, .row .u32 1), (6, .any), (8, .any), (20, .il .u32 1), (21, .any), (22, .any)]⟩
noncomputable def nat_product.c7 (N : Nat) : Cut := ⟨fun vs H k => match vs, H with
  | [.ptr 0 0 1, .ptr 1 0 1, .sw 2 1, .c (.int .i64 x8), .c (.int .u32 x9), .c (.int .u64 x10), .il .u32 1 x11, .c (.int .i64 x12), .c (.int .i64 x13), .il .u32 1 x14, .c (.int .i64 x15), .c (.int .i64 x16)], [.vals [.il .u32 1 x17], .vals [.c (.slice none 0 0)], .ints .u32 x18] => nat_product.l7 N N x8 x9 x10 x11 x12 x13 x14 x15 x16 x17 x18 (fun x19 x20 x21 x22 x23 x24 x25 => k (.exit 2) ⟨mkT nat_product.h7.out [.ptr 0 0 1, .ptr 1 0 1, .sw 2 1, .c (.int .i64 x19), .c (.int .u64 x20), .il .u32 1 x21, .c (.int .i64 x22), .c (.int .i64 x23)], [.vals [.il .u32 1 x24], .vals [.c (.slice none 0 0)], .ints .u32 x25]⟩)
  | _, _ => none⟩
noncomputable def nat_product.c3 (N : Nat) : Cut := ⟨fun vs H k => match vs, H with
  | [.ptr 0 0 1, .ptr 1 0 1, .sw 2 1, .il .u32 1 x3, .c (.int .i64 x4), .c (.int .i64 x5)], [.vals [.il .u32 1 x6], .vals [.c (.slice none 0 0)], .ints .u32 x7] => nat_product.l3 N N x3 x4 x5 x6 x7 (fun x33 => k (.exit 0) ⟨mkT nat_product.h3.out [.ptr 0 0 1, .sw 1 1], [.vals [.c (.slice none 0 0)], .ints .u32 x33]⟩)
  | _, _ => none⟩
noncomputable def nat_product.E (N : Nat) : Env := { ty := lookN nat_product.ty, tab := lookN [(87, nat_cut.ent N)], hint := lookN [(3, nat_product.h3), (7, nat_product.h7)], cut := lookN [(7, nat_product.c7 N), (3, nat_product.c3 N)], N := N, res := [.cell 4 74], rsh := [.recd [.il .u32 1]], nb := 0, ntmps := 72, own := false }
noncomputable def nat_product.b7 : Code := inner ((subLoops nat_product.body).getD 1 .skip)
set_option maxRecDepth 100000 in
theorem nat_product.l7_eq {R : Type} (N n : Nat) (x8 : Int) (x9 : Int) (x10 : Int) (x11 : List Int) (x12 : Int) (x13 : Int) (x14 : List Int) (x15 : Int) (x16 : Int) (x17 : List Int) (x18 : List Int) (k : Ex → St → Option R) :
    evLoop 0 nat_product.h7 (fun s k => evCode (nat_product.E N) 384 nat_product.b7 s k) n [.ptr 0 0 1, .ptr 1 0 1, .sw 2 1, .c (.int .i64 x8), .c (.int .u32 x9), .c (.int .u64 x10), .il .u32 1 x11, .c (.int .i64 x12), .c (.int .i64 x13), .il .u32 1 x14, .c (.int .i64 x15), .c (.int .i64 x16)] [.vals [.il .u32 1 x17], .vals [.c (.slice none 0 0)], .ints .u32 x18] k = nat_product.l7 N n x8 x9 x10 x11 x12 x13 x14 x15 x16 x17 x18 (fun x19 x20 x21 x22 x23 x24 x25 => k (.exit 2) ⟨mkT nat_product.h7.out [.ptr 0 0 1, .ptr 1 0 1, .sw 2 1, .c (.int .i64 x19), .c (.int .u64 x20), .il .u32 1 x21, .c (.int .i64 x22), .c (.int .i64 x23)], [.vals [.il .u32 1 x24], .vals [.c (.slice none 0 0)], .ints .u32 x25]⟩) := by
  induction n generalizing x8 x9 x10 x11 x12 x13 x14 x15 x16 x17 x18 with
  | zero => kernel_rfl
  | succ n ih =>
    simp only [nat_product.l7, ← ih]
    kernel_rfl
noncomputable def nat_product.b3 : Code := inner ((subLoops nat_product.body).getD 0 .skip)
set_option maxRecDepth 100000 in
theorem nat_product.l3_eq {R : Type} (N n : Nat) (x3 : List Int) (x4 : Int) (x5 : Int) (x6 : List Int) (x7 : List Int) (k : Ex → St → Option R) :
    evLoop 0 nat_product.h3 (fun s k => evCode (nat_product.E N) 394 nat_product.b3 s k) n [.ptr 0 0 1, .ptr 1 0 1, .sw 2 1, .il .u32 1 x3, .c (.int .i64 x4), .c (.int .i64 x5)] [.vals [.il .u32 1 x6], .vals [.c (.slice none 0 0)], .ints .u32 x7] k = nat_product.l3 N n x3 x4 x5 x6 x7 (fun x33 => k (.exit 0) ⟨mkT nat_product.h3.out [.ptr 0 0 1, .sw 1 1], [.vals [.c (.slice none 0 0)], .ints .u32 x33]⟩) := by
  induction n generalizing x3 x4 x5 x6 x7 with
  | zero => kernel_rfl
  | succ n ih =>
    simp only [nat_product.l3, ← ih]
    kernel_rfl
noncomputable def nat_product.dec (v : V) (bs : List Blk) : Option (List Int) := match v, bs with
  | .agg [.il .u32 1 z0], [] => some z0
  | _, _ => none
set_option maxRecDepth 100000 in
theorem nat_product.f_eq (N : Nat) (a1 : List Int) (a2 : List Int) :
    evFun (nat_product.E N) nat_product.body [.agg [.il .u32 1 a1], .agg [.il .u32 1 a2]] [] nat_product.dec = nat_product.f N a1 a2 := by kernel_rfl
noncomputable def nat_product.ent (N : Nat) : Entry := { A := List Int, fresh := 0, imm := [true, true], dec := fun args bs => match freezeL 0 (fun _ => .dead) [.recd [.il .u32 1], .recd [.il .u32 1]] args, bs with
  | some [.agg [.il .u32 1 a1], .agg [.il .u32 1 a2]], [] => some (nat_product.f N a1 a2, fun r => .one (.agg [.il .u32 1 r]) [])
  | _, _ => none }
theorem nat_product.env (N : Nat) : EnvOK Try.prog (nat_product.E N) := ⟨(TyOK.cons ty72_ok (TyOK.cons ty74_ok (TyOK.cons ty92_ok (TyOK.cons ty94_ok TyOK.nil)))), (TabOK.cons (nat_cut.ent_ok N) TabOK.nil)⟩
theorem nat_product.res_eq (N : Nat) : (nat_product.E N).res = Try.f99.results.toList := by kernel_rfl
theorem nat_product.k7 (N : Nat) : CutOK Try.prog Try.f99 (nat_product.E N) (.loop nat_product.b7) := by
  intro e hd he hh R vs H k r h
  have e1 : (nat_product.E N).cut (loopKey nat_product.b7) = some (nat_product.c7 N) := by kernel_rfl
  have e2 : (nat_product.E N).hint (loopKey nat_product.b7) = some nat_product.h7 := by kernel_rfl
  rw [e1] at he; rw [e2] at hh; cases he; cases hh
  unfold nat_product.c7 at h; dsimp only at h
  split at h
  · rw [← nat_product.l7_eq] at h
    exact loop_ok (evCode_ok (nat_product.env N) Try_mixed (nat_product.res_eq N) 384 nat_product.b7 (AllCut.of (l := []) (by kernel_rfl) AllCut.nil)) h
  · cases h
theorem nat_product.k3 (N : Nat) : CutOK Try.prog Try.f99 (nat_product.E N) (.loop nat_product.b3) := by
  intro e hd he hh R vs H k r h
  have e1 : (nat_product.E N).cut (loopKey nat_product.b3) = some (nat_product.c3 N) := by kernel_rfl
  have e2 : (nat_product.E N).hint (loopKey nat_product.b3) = some nat_product.h3 := by kernel_rfl
  rw [e1] at he; rw [e2] at hh; cases he; cases hh
  unfold nat_product.c3 at h; dsimp only at h
  split at h
  · rw [← nat_product.l3_eq] at h
    exact loop_ok (evCode_ok (nat_product.env N) Try_mixed (nat_product.res_eq N) 394 nat_product.b3 (AllCut.of (l := [(.loop (inner ((subLoops nat_product.body).getD 1 .skip)))]) (by kernel_rfl) (AllCut.cons (nat_product.k7 N) AllCut.nil))) h
  · cases h
theorem nat_product.spec (N : Nat) (a1 : List Int) (a2 : List Int) (r : List Int) (h : nat_product.f N a1 a2 = some r) : FnSpec Try.prog 99 [.agg [.il .u32 1 a1], .agg [.il .u32 1 a2]] [] (.agg [.il .u32 1 r]) ([]) := by
  rw [← nat_product.f_eq] at h
  refine (evFun_ok (nat_product.env N) Try_mixed Try.func99 (by kernel_rfl : Try.f99.body = some nat_product.body) (by kernel_rfl) (nat_product.res_eq N) (by kernel_rfl) (by kernel_rfl) (Nat.le_of_ble_eq_true (by kernel_rfl)) (AllCut.of (l := [(.loop (inner ((subLoops nat_product.body).getD 0 .skip))), (.loop (inner ((subLoops nat_product.body).getD 1 .skip)))]) (by kernel_rfl) (AllCut.cons (nat_product.k3 N) (AllCut.cons (nat_product.k7 N) AllCut.nil))) h).of fun v bs' h1 => ?_
  unfold nat_product.dec at h1; split at h1
  · cases h1; exact ⟨rfl, rfl⟩
  · cases h1
theorem nat_product.ent_ok (N : Nat) : TabOK1 Try.prog 99 (nat_product.ent N) := by
  intro args bs a enc h
  simp only [nat_product.ent] at h
  split at h
  · rename_i hz; have h0 := Option.some.inj h; have h1 := congrArg Prod.fst h0; have h2 := congrArg Prod.snd h0; dsimp only at h1 h2; subst h2; exact FnSpec.of_freeze hz (nat_product.spec N _ _ a h1)
  · cases h
/-! parquet/nat.Mul: function 92 -/
noncomputable def nat_Mul.f (N : Nat) (a1 : List Int) (a2 : List Int) : Option (List Int × Int) :=
  (nat_Nat_Bits.f N a1).bind fun r3 =>
  (nat_Nat_Bits.f N a2).bind fun r4 =>
  bif decide ((wi64 (r3 + r4)) > 4097) then
    some ([], 3)
  else
  (nat_product.f N a1 a2).bind fun r5 =>
  (nat_Nat_fits.f N r5).bind fun r6 =>
  some (r6.1, r6.2)
noncomputable def nat_Mul.body : Code := (Try.f92.body).getD .skip
noncomputable def nat_Mul.ty : List (Nat × TI) := [(72, ty72), (74, ty74)]
noncomputable def nat_Mul.E (N : Nat) : Env := { ty := lookN nat_Mul.ty, tab := lookN [(73, nat_Nat_Bits.ent N), (99, nat_product.ent N), (100, nat_Nat_fits.ent N)], hint := lookN [], cut := lookN [], N := N, res := [.cell 4 74, .tmp 5], rsh := [.recd [.il .u32 1], .any], nb := 0, ntmps := 19, own := false }
noncomputable def nat_Mul.dec (v : V) (bs : List Blk) : Option (List Int × Int) := match v, bs with
  | .tup [.agg [.il .u32 1 z0], .c (.int .i64 z1)], [] => some (z0, z1)
  | _, _ => none
set_option maxRecDepth 100000 in
theorem nat_Mul.f_eq (N : Nat) (a1 : List Int) (a2 : List Int) :
    evFun (nat_Mul.E N) nat_Mul.body [.agg [.il .u32 1 a1], .agg [.il .u32 1 a2]] [] nat_Mul.dec = nat_Mul.f N a1 a2 := by kernel_rfl
noncomputable def nat_Mul.ent (N : Nat) : Entry := { A := List Int × Int, fresh := 0, imm := [true, true], dec := fun args bs => match freezeL 0 (fun _ => .dead) [.recd [.il .u32 1], .recd [.il .u32 1]] args, bs with
  | some [.agg [.il .u32 1 a1], .agg [.il .u32 1 a2]], [] => some (nat_Mul.f N a1 a2, fun r => .one (.tup [.agg [.il .u32 1 r.1], .c (.int .i64 r.2)]) [])
  | _, _ => none }
theorem nat_Mul.env (N : Nat) : EnvOK Try.prog (nat_Mul.E N) := ⟨(TyOK.cons ty72_ok (TyOK.cons ty74_ok TyOK.nil)), (TabOK.cons (nat_Nat_Bits.ent_ok N) (TabOK.cons (nat_product.ent_ok N) (TabOK.cons (nat_Nat_fits.ent_ok N) TabOK.nil)))⟩
theorem nat_Mul.res_eq (N : Nat) : (nat_Mul.E N).res = Try.f92.results.toList := by kernel_rfl
theorem nat_Mul.spec (N : Nat) (a1 : List Int) (a2 : List Int) (r : List Int × Int) (h : nat_Mul.f N a1 a2 = some r) : FnSpec Try.prog 92 [.agg [.il .u32 1 a1], .agg [.il .u32 1 a2]] [] (.tup [.agg [.il .u32 1 r.1], .c (.int .i64 r.2)]) ([]) := by
  rw [← nat_Mul.f_eq] at h
  refine (evFun_ok (nat_Mul.env N) Try_mixed Try.func92 (by kernel_rfl : Try.f92.body = some nat_Mul.body) (by kernel_rfl) (nat_Mul.res_eq N) (by kernel_rfl) (by kernel_rfl) (Nat.le_of_ble_eq_true (by kernel_rfl)) (AllCut.of (l := []) (by kernel_rfl) AllCut.nil) h).of fun v bs' h1 => ?_
  unfold nat_Mul.dec at h1; split at h1
  · cases h1; exact ⟨rfl, rfl⟩
  · cases h1
theorem nat_Mul.ent_ok (N : Nat) : TabOK1 Try.prog 92 (nat_Mul.ent N) := by
  intro args bs a enc h
  simp only [nat_Mul.ent] at h
  split at h
  · rename_i hz; have h0 := Option.some.inj h; have h1 := congrArg Prod.fst h0; have h2 := congrArg Prod.snd h0; dsimp only at h1 h2; subst h2; exact FnSpec.of_freeze hz (nat_Mul.spec N _ _ a h1)
  · cases h
/-! math/bits.LeadingZeros32: function 95 -/
noncomputable def bits_LeadingZeros32.f (N : Nat) (a1 : Int) : Option (Int) :=
  (bits_Len32.f N a1).bind fun r2 =>
  some (wi64 (32 - r2))
noncomputable def bits_LeadingZeros32.body : Code := (Try.f95.body).getD .skip
noncomputable def bits_LeadingZeros32.ty : List (Nat × TI) := []
noncomputable def bits_LeadingZeros32.E (N : Nat) : Env := { ty := lookN bits_LeadingZeros32.ty, tab := lookN [(65, bits_Len32.ent N)], hint := lookN [], cut := lookN [], N := N, res := [.tmp 2], rsh := [.any], nb := 0, ntmps := 6, own := false }
noncomputable def bits_LeadingZeros32.dec (v : V) (bs : List Blk) : Option (Int) := match v, bs with
  | .c (.int .i64 z0), [] => some z0
  | _, _ => none
set_option maxRecDepth 100000 in
theorem bits_LeadingZeros32.f_eq (N : Nat) (a1 : Int) :
    evFun (bits_LeadingZeros32.E N) bits_LeadingZeros32.body [.c (.int .u32 a1)] [] bits_LeadingZeros32.dec = bits_LeadingZeros32.f N a1 := by kernel_rfl
noncomputable def bits_LeadingZeros32.ent (N : Nat) : Entry := { A := Int, fresh := 0, imm := [true], dec := fun args bs => match freezeL 0 (fun _ => .dead) [.any] args, bs with
  | some [.c (.int .u32 a1)], [] => some (bits_LeadingZeros32.f N a1, fun r => .one (.c (.int .i64 r)) [])
  | _, _ => none }
theorem bits_LeadingZeros32.env (N : Nat) : EnvOK Try.prog (bits_LeadingZeros32.E N) := ⟨TyOK.nil, (TabOK.cons (bits_Len32.ent_ok N) TabOK.nil)⟩
theorem bits_LeadingZeros32.res_eq (N : Nat) : (bits_LeadingZeros32.E N).res = Try.f95.results.toList := by kernel_rfl
theorem bits_LeadingZeros32.spec (N : Nat) (a1 : Int) (r : Int) (h : bits_LeadingZeros32.f N a1 = some r) : FnSpec Try.prog 95 [.c (.int .u32 a1)] [] (.c (.int .i64 r)) ([]) := by
  rw [← bits_LeadingZeros32.f_eq] at h
  refine (evFun_ok (bits_LeadingZeros32.env N) Try_mixed Try.func95 (by kernel_rfl : Try.f95.body = some bits_LeadingZeros32.body) (by kernel_rfl) (bits_LeadingZeros32.res_eq N) (by kernel_rfl) (by kernel_rfl) (Nat.le_of_ble_eq_true (by kernel_rfl)) (AllCut.of (l := []) (by kernel_rfl) AllCut.nil) h).of fun v bs' h1 => ?_
  unfold bits_LeadingZeros32.dec at h1; split at h1
  · cases h1; exact ⟨rfl, rfl⟩
  · cases h1
theorem bits_LeadingZeros32.ent_ok (N : Nat) : TabOK1 Try.prog 95 (bits_LeadingZeros32.ent N) := by
  intro args bs a enc h
  simp only [bits_LeadingZeros32.ent] at h
  split at h
  · rename_i hz; have h0 := Option.some.inj h; have h1 := congrArg Prod.fst h0; have h2 := congrArg Prod.snd h0; dsimp only at h1 h2; subst h2; exact FnSpec.of_freeze hz (bits_LeadingZeros32.spec N _ a h1)
  · cases h
/-! parquet/nat.short: function 90 -/
noncomputable def nat_short.l3 {R : Type} (N : Nat) : Nat → Nat → Nat → Int → Int → Int → List Int → (Int → List Int → Option R) → Option R
  | 0, _, _, _, _, _, _, _ => none
  | n + 1, x5, x6, x7, x8, x9, x10, k0 =>
    bif decide (x9 ≥ 0) then
      bif (decide (0 ≤ x9)) && (decide (x9 < (x6 : Int))) then
        bif !((wu64 x7) == 0) then
          bif !((wu64 x7) == 0) then
            bif (decide (0 ≤ x9)) && (decide (x9 < (x6 : Int))) then
              nat_short.l3 N n x5 x6 x7 (Int.tmod (bit_or .u64 (wu64 (x8 * 2 ^ 32)) (wu64 (x10.getD (x5 + x9.toNat) 0))) (wu64 x7)) (wi64 (x9 - 1)) (x10.set (x5 + x9.toNat) (wu32 (wu64 (Int.tdiv (bit_or .u64 (wu64 (x8 * 2 ^ 32)) (wu64 (x10.getD (x5 + x9.toNat) 0))) (wu64 x7))))) k0
            else none
          else none
        else none
      else none
    else
    k0 x8 x10
noncomputable def nat_short.f (N : Nat) (a1 : Nat) (a2 : Nat) (a3 : Int) (a4 : List Int) : Option (Int × List Int) :=
  nat_short.l3 N N a1 a2 a3 0 (wi64 ((a2 : Int) - 1)) a4
    (fun y13 y14 =>
      some (wu32 y13, y14))
noncomputable def nat_short.body : Code := (Try.f90.body).getD .skip
noncomputable def nat_short.ty : List (Nat × TI) := [(72, ty72), (92, ty92), (94, ty94)]
noncomputable def nat_short.h3 : Hint := ⟨[(0, .any), (1, .any), (5, .any), (6, .any)], [(5, .any)]⟩
noncomputable def nat_short.c3 (N : Nat) : Cut := ⟨fun vs H k => match vs, H with
  | [.sl 0 1 x5 x6, .c (.int .u32 x7), .c (.int .u64 x8), .c (.int .i64 x9)], [.ints .u32 x10] => nat_short.l3 N N x5 x6 x7 x8 x9 x10 (fun x11 x12 => k (.exit 0) ⟨mkT nat_short.h3.out [.c (.int .u64 x11)], [.ints .u32 x12]⟩)
  | _, _ => none⟩
noncomputable def nat_short.E (N : Nat) : Env := { ty := lookN nat_short.ty, tab := lookN [], hint := lookN [(3, nat_short.h3)], cut := lookN [(3, nat_short.c3 N)], N := N, res := [.tmp 4], rsh := [.any], nb := 1, ntmps := 37, own := false }
noncomputable def nat_short.b3 : Code := inner ((subLoops nat_short.body).getD 0 .skip)
set_option maxRecDepth 100000 in
theorem nat_short.l3_eq {R : Type} (N n : Nat) (x5 : Nat) (x6 : Nat) (x7 : Int) (x8 : Int) (x9 : Int) (x10 : List Int) (k : Ex → St → Option R) :
    evLoop 1 nat_short.h3 (fun s k => evCode (nat_short.E N) 394 nat_short.b3 s k) n [.sl 0 1 x5 x6, .c (.int .u32 x7), .c (.int .u64 x8), .c (.int .i64 x9)] [.ints .u32 x10] k = nat_short.l3 N n x5 x6 x7 x8 x9 x10 (fun x11 x12 => k (.exit 0) ⟨mkT nat_short.h3.out [.c (.int .u64 x11)], [.ints .u32 x12]⟩) := by
  induction n generalizing x5 x6 x7 x8 x9 x10 with
  | zero => kernel_rfl
  | succ n ih =>
    simp only [nat_short.l3, ← ih]
    kernel_rfl
noncomputable def nat_short.dec (v : V) (bs : List Blk) : Option (Int × List Int) := match v, bs with
  | .c (.int .u32 z0), [.ints .u32 z1] => some (z0, z1)
  | _, _ => none
set_option maxRecDepth 100000 in
theorem nat_short.f_eq (N : Nat) (a1 : Nat) (a2 : Nat) (a3 : Int) (a4 : List Int) :
    evFun (nat_short.E N) nat_short.body [.sl 0 1 a1 a2, .c (.int .u32 a3)] [.ints .u32 a4] nat_short.dec = nat_short.f N a1 a2 a3 a4 := by kernel_rfl
noncomputable def nat_short.ent (N : Nat) : Entry := { A := Int × List Int, fresh := 0, imm := [false, true], dec := fun args bs => match asSlL (blkAt bs) [true, false] args, bs with
  | [.sl 0 1 a1 a2, .c (.int .u32 a3)], [.ints .u32 a4] => some (nat_short.f N a1 a2 a3 a4, fun r => .one (.c (.int .u32 r.1)) [.ints .u32 r.2])
  | _, _ => none }
theorem nat_short.env (N : Nat) : EnvOK Try.prog (nat_short.E N) := ⟨(TyOK.cons ty72_ok (TyOK.cons ty92_ok (TyOK.cons ty94_ok TyOK.nil))), TabOK.nil⟩
theorem nat_short.res_eq (N : Nat) : (nat_short.E N).res = Try.f90.results.toList := by kernel_rfl
theorem nat_short.k3 (N : Nat) : CutOK Try.prog Try.f90 (nat_short.E N) (.loop nat_short.b3) := by
  intro e hd he hh R vs H k r h
  have e1 : (nat_short.E N).cut (loopKey nat_short.b3) = some (nat_short.c3 N) := by kernel_rfl
  have e2 : (nat_short.E N).hint (loopKey nat_short.b3) = some nat_short.h3 := by kernel_rfl
  rw [e1] at he; rw [e2] at hh; cases he; cases hh
  unfold nat_short.c3 at h; dsimp only at h
  split at h
  · rw [← nat_short.l3_eq] at h
    exact loop_ok (evCode_ok (nat_short.env N) Try_mixed (nat_short.res_eq N) 394 nat_short.b3 (AllCut.of (l := []) (by kernel_rfl) AllCut.nil)) h
  · cases h
theorem nat_short.spec (N : Nat) (a1 : Nat) (a2 : Nat) (a3 : Int) (a4 : List Int) (r : Int × List Int) (h : nat_short.f N a1 a2 a3 a4 = some r) : FnSpec Try.prog 90 [.sl 0 1 a1 a2, .c (.int .u32 a3)] [.ints .u32 a4] (.c (.int .u32 r.1)) ([.ints .u32 r.2]) := by
  rw [← nat_short.f_eq] at h
  refine (evFun_ok (nat_short.env N) Try_mixed Try.func90 (by kernel_rfl : Try.f90.body = some nat_short.body) (by kernel_rfl) (nat_short.res_eq N) (by kernel_rfl) (by kernel_rfl) (Nat.le_of_ble_eq_true (by kernel_rfl)) (AllCut.of (l := [(.loop (inner ((subLoops nat_short.body).getD 0 .skip)))]) (by kernel_rfl) (AllCut.cons (nat_short.k3 N) AllCut.nil)) h).of fun v bs' h1 => ?_
  unfold nat_short.dec at h1; split at h1
  · cases h1; exact ⟨rfl, rfl⟩
  · cases h1
theorem nat_short.ent_ok (N : Nat) : TabOK1 Try.prog 90 (nat_short.ent N) := by
  intro args bs a enc h
  simp only [nat_short.ent] at h
  split at h
  · rename_i hz; have h0 := Option.some.inj h; have h1 := congrArg Prod.fst h0; have h2 := congrArg Prod.snd h0; dsimp only at h1 h2; subst h2; exact FnSpec.of_asSl (fl := [true, false]) (by rw [hz]; exact nat_short.spec N _ _ _ _ a h1)
  · cases h
/-! parquet/nat.up: function 96 -/
noncomputable def nat_up.l4 {R : Type} (N : Nat) : Nat → List Int → Int → Int → Int → Int → List Int → (List Int → Option R) → Option R
  | 0, _, _, _, _, _, _, _ => none
  | n + 1, x4, x5, x6, x7, x8, x9, k0 =>
    bif decide (x8 < x7) then
      bif decide (x8 < (x4.length : Int)) then
        bif (decide (0 ≤ x8)) && (decide (x8 < (x4.length : Int))) then
          bif decide (0 ≤ x5) then
            bif (decide (0 ≤ x8)) && (decide (x8 < (x9.length : Int))) then
              nat_up.l4 N n x4 x5 (Int.fdiv (bit_or .u64 x6 (wu64 ((wu64 (x4.getD x8.toNat 0)) * 2 ^ (min x5.toNat 64)))) (2 ^ 32)) x7 (wi64 (x8 + 1)) (x9.set x8.toNat (wu32 (bit_or .u64 x6 (wu64 ((wu64 (x4.getD x8.toNat 0)) * 2 ^ (min x5.toNat 64)))))) k0
            else none
          else none
        else none
      else
      bif (decide (0 ≤ x8)) && (decide (x8 < (x9.length : Int))) then
        nat_up.l4 N n x4 x5 (Int.fdiv x6 (2 ^ 32)) x7 (wi64 (x8 + 1)) (x9.set x8.toNat (wu32 x6)) k0
      else none
    else
    k0 x9
noncomputable def nat_up.f (N : Nat) (a1 : List Int) (a2 : Int) (a3 : Int) : Option (List Int) :=
  bif decide (a3 = a3) && decide (0 ≤ a3) && decide (a3 ≤ 9223372036854775807) && roomy a3.toNat 4 then
    nat_up.l4 N N a1 a2 0 ((List.replicate a3.toNat (0 : Int)).length : Int) 0 (List.replicate a3.toNat (0 : Int))
      (fun y11 =>
        some y11)
  else none
noncomputable def nat_up.body : Code := (Try.f96.body).getD .skip
noncomputable def nat_up.ty : List (Nat × TI) := [(72, ty72), (92, ty92), (94, ty94)]
noncomputable def nat_up.h4 : Hint := ⟨[(0, .il .u32 1), (1, .any), (7, .row .u32 1), (8, .any), (13, .any), (14, .any)], [(7, .row .u32 1)]⟩
noncomputable def nat_up.c4 (N : Nat) : Cut := ⟨fun vs H k => match vs, H with
  | [.il .u32 1 x4, .c (.int .i64 x5), .sw 0 1, .c (.int .u64 x6), .c (.int .i64 x7), .c (.int .i64 x8)], [.ints .u32 x9] => nat_up.l4 N N x4 x5 x6 x7 x8 x9 (fun x10 => k (.exit 0) ⟨mkT nat_up.h4.out [.sw 0 1], [.ints .u32 x10]⟩)
  | _, _ => none⟩
noncomputable def nat_up.E (N : Nat) : Env := { ty := lookN nat_up.ty, tab := lookN [], hint := lookN [(4, nat_up.h4)], cut := lookN [(4, nat_up.c4 N)], N := N, res := [.tmp 6], rsh := [.row .u32 1], nb := 0, ntmps := 39, own := true }
noncomputable def nat_up.b4 : Code := inner ((subLoops nat_up.body).getD 0 .skip)
set_option maxRecDepth 100000 in
theorem nat_up.l4_eq {R : Type} (N n : Nat) (x4 : List Int) (x5 : Int) (x6 : Int) (x7 : Int) (x8 : Int) (x9 : List Int) (k : Ex → St → Option R) :
    evLoop 0 nat_up.h4 (fun s k => evCode (nat_up.E N) 393 nat_up.b4 s k) n [.il .u32 1 x4, .c (.int .i64 x5), .sw 0 1, .c (.int .u64 x6), .c (.int .i64 x7), .c (.int .i64 x8)] [.ints .u32 x9] k = nat_up.l4 N n x4 x5 x6 x7 x8 x9 (fun x10 => k (.exit 0) ⟨mkT nat_up.h4.out [.sw 0 1], [.ints .u32 x10]⟩) := by
  induction n generalizing x4 x5 x6 x7 x8 x9 with
  | zero => kernel_rfl
  | succ n ih =>
    simp only [nat_up.l4, ← ih]
    kernel_rfl
noncomputable def nat_up.dec (v : V) (bs : List Blk) : Option (List Int) := match v, bs with
  | .sw 0 1, [.ints .u32 z0] => some z0
  | _, _ => none
set_option maxRecDepth 100000 in
theorem nat_up.f_eq (N : Nat) (a1 : List Int) (a2 : Int) (a3 : Int) :
    evFun (nat_up.E N) nat_up.body [.il .u32 1 a1, .c (.int .i64 a2), .c (.int .i64 a3)] [] nat_up.dec = nat_up.f N a1 a2 a3 := by kernel_rfl
noncomputable def nat_up.ent (N : Nat) : Entry := { A := List Int, fresh := 1, imm := [true, true, true], dec := fun args bs => match freezeL 0 (fun _ => .dead) [.il .u32 1, .any, .any] args, bs with
  | some [.il .u32 1 a1, .c (.int .i64 a2), .c (.int .i64 a3)], [] => some (nat_up.f N a1 a2 a3, fun r => .one (.sw 0 1) [.ints .u32 r])
  | _, _ => none }
theorem nat_up.env (N : Nat) : EnvOK Try.prog (nat_up.E N) := ⟨(TyOK.cons ty72_ok (TyOK.cons ty92_ok (TyOK.cons ty94_ok TyOK.nil))), TabOK.nil⟩
theorem nat_up.res_eq (N : Nat) : (nat_up.E N).res = Try.f96.results.toList := by kernel_rfl
theorem nat_up.k4 (N : Nat) : CutOK Try.prog Try.f96 (nat_up.E N) (.loop nat_up.b4) := by
  intro e hd he hh R vs H k r h
  have e1 : (nat_up.E N).cut (loopKey nat_up.b4) = some (nat_up.c4 N) := by kernel_rfl
  have e2 : (nat_up.E N).hint (loopKey nat_up.b4) = some nat_up.h4 := by kernel_rfl
  rw [e1] at he; rw [e2] at hh; cases he; cases hh
  unfold nat_up.c4 at h; dsimp only at h
  split at h
  · rw [← nat_up.l4_eq] at h
    exact loop_ok (evCode_ok (nat_up.env N) Try_mixed (nat_up.res_eq N) 393 nat_up.b4 (AllCut.of (l := []) (by kernel_rfl) AllCut.nil)) h
  · cases h
theorem nat_up.spec (N : Nat) (a1 : List Int) (a2 : Int) (a3 : Int) (r : List Int) (h : nat_up.f N a1 a2 a3 = some r) : FnSpec Try.prog 96 [.il .u32 1 a1, .c (.int .i64 a2), .c (.int .i64 a3)] [] (.sw 0 1) ([.ints .u32 r]) := by
  rw [← nat_up.f_eq] at h
  refine (evFun_ok (nat_up.env N) Try_mixed Try.func96 (by kernel_rfl : Try.f96.body = some nat_up.body) (by kernel_rfl) (nat_up.res_eq N) (by kernel_rfl) (by kernel_rfl) (Nat.le_of_ble_eq_true (by kernel_rfl)) (AllCut.of (l := [(.loop (inner ((subLoops nat_up.body).getD 0 .skip)))]) (by kernel_rfl) (AllCut.cons (nat_up.k4 N) AllCut.nil)) h).of fun v bs' h1 => ?_
  unfold nat_up.dec at h1; split at h1
  · cases h1; exact ⟨rfl, rfl⟩
  · cases h1
theorem nat_up.ent_ok (N : Nat) : TabOK1 Try.prog 96 (nat_up.ent N) := by
  intro args bs a enc h
  simp only [nat_up.ent] at h
  split at h
  · rename_i hz; have h0 := Option.some.inj h; have h1 := congrArg Prod.fst h0; have h2 := congrArg Prod.snd h0; dsimp only at h1 h2; subst h2; exact FnSpec.of_freeze hz (nat_up.spec N _ _ _ a h1)
  · cases h
/-! parquet/nat.down: function 98 -/
noncomputable def nat_down.l3 {R : Type} (N : Nat) : Nat → List Int → Int → Int → Int → List Int → (List Int → Option R) → Option R
  | 0, _, _, _, _, _, _ => none
  | n + 1, x3, x4, x5, x6, x7, k0 =>
    bif decide (x6 < x5) then
      bif (decide (0 ≤ x6)) && (decide (x6 < (x3.length : Int))) then
        bif decide ((wi64 (x6 + 1)) < (x3.length : Int)) then
          bif (decide (0 ≤ (wi64 (x6 + 1)))) && (decide ((wi64 (x6 + 1)) < (x3.length : Int))) then
            bif decide (0 ≤ x4) then
              bif (decide (0 ≤ x6)) && (decide (x6 < (x7.length : Int))) then
                nat_down.l3 N n x3 x4 x5 (wi64 (x6 + 1)) (x7.set x6.toNat (wu32 (Int.fdiv (bit_or .u64 (wu64 (x3.getD x6.toNat 0)) (wu64 ((wu64 (x3.getD ((wi64 (x6 + 1)).toNat) 0)) * 2 ^ 32))) (2 ^ (min x4.toNat 64))))) k0
              else none
            else none
          else none
        else
        bif decide (0 ≤ x4) then
          bif (decide (0 ≤ x6)) && (decide (x6 < (x7.length : Int))) then
            nat_down.l3 N n x3 x4 x5 (wi64 (x6 + 1)) (x7.set x6.toNat (wu32 (Int.fdiv (wu64 (x3.getD x6.toNat 0)) (2 ^ (min x4.toNat 64))))) k0
          else none
        else none
      else none
    else
    k0 x7
noncomputable def nat_down.f (N : Nat) (a1 : List Int) (a2 : Int) : Option (List Int) :=
  bif decide ((a1.length : Int) = (a1.length : Int)) && decide (0 ≤ (a1.length : Int)) && decide ((a1.length : Int) ≤ 9223372036854775807) && roomy ((a1.length : Int).toNat) 4 then
    nat_down.l3 N N a1 a2 (a1.length : Int) 0 (List.replicate ((a1.length : Int).toNat) (0 : Int))
      (fun y9 =>
        (nat_cut.f N 0 y9.length y9).bind fun r10 =>
        some ((r10.2.2.drop r10.1).take r10.2.1))
  else none
noncomputable def nat_down.body : Code := (Try.f98.body).getD .skip
noncomputable def nat_down.ty : List (Nat × TI) := [(72, ty72), (74, ty74), (92, ty92), (94, ty94)]
noncomputable def nat_down.h3 : Hint := ⟨[(0, .il .u32 1), (1, .any), (4, .box [.any]), (5, .row .u32 1), (12, .any), (13, .any)], [(4, .box [.any]), (5, .row .u32 1)]⟩
noncomputable def nat_down.c3 (N : Nat) : Cut := ⟨fun vs H k => match vs, H with
  | [.il .u32 1 x3, .c (.int .i64 x4), .ptr 0 0 1, .sw 1 1, .c (.int .i64 x5), .c (.int .i64 x6)], [.vals [.c (.slice none 0 0)], .ints .u32 x7] => nat_down.l3 N N x3 x4 x5 x6 x7 (fun x8 => k (.exit 0) ⟨mkT nat_down.h3.out [.ptr 0 0 1, .sw 1 1], [.vals [.c (.slice none 0 0)], .ints .u32 x8]⟩)
  | _, _ => none⟩
noncomputable def nat_down.E (N : Nat) : Env := { ty := lookN nat_down.ty, tab := lookN [(87, nat_cut.ent N)], hint := lookN [(3, nat_down.h3)], cut := lookN [(3, nat_down.c3 N)], N := N, res := [.cell 4 74], rsh := [.recd [.il .u32 1]], nb := 0, ntmps := 45, own := false }
noncomputable def nat_down.b3 : Code := inner ((subLoops nat_down.body).getD 0 .skip)
set_option maxRecDepth 100000 in
theorem nat_down.l3_eq {R : Type} (N n : Nat) (x3 : List Int) (x4 : Int) (x5 : Int) (x6 : Int) (x7 : List Int) (k : Ex → St → Option R) :
    evLoop 0 nat_down.h3 (fun s k => evCode (nat_down.E N) 394 nat_down.b3 s k) n [.il .u32 1 x3, .c (.int .i64 x4), .ptr 0 0 1, .sw 1 1, .c (.int .i64 x5), .c (.int .i64 x6)] [.vals [.c (.slice none 0 0)], .ints .u32 x7] k = nat_down.l3 N n x3 x4 x5 x6 x7 (fun x8 => k (.exit 0) ⟨mkT nat_down.h3.out [.ptr 0 0 1, .sw 1 1], [.vals [.c (.slice none 0 0)], .ints .u32 x8]⟩) := by
  induction n generalizing x3 x4 x5 x6 x7 with
  | zero => kernel_rfl
  | succ n ih =>
    simp only [nat_down.l3, ← ih]
    kernel_rfl
noncomputable def nat_down.dec (v : V) (bs : List Blk) : Option (List Int) := match v, bs with
  | .agg [.il .u32 1 z0], [] => some z0
  | _, _ => none
set_option maxRecDepth 100000 in
theorem nat_down.f_eq (N : Nat) (a1 : List Int) (a2 : Int) :
    evFun (nat_down.E N) nat_down.body [.il .u32 1 a1, .c (.int .i64 a2)] [] nat_down.dec = nat_down.f N a1 a2 := by kernel_rfl
noncomputable def nat_down.ent (N : Nat) : Entry := { A := List Int, fresh := 0, imm := [true, true], dec := fun args bs => match freezeL 0 (fun _ => .dead) [.il .u32 1, .any] args, bs with
  | some [.il .u32 1 a1, .c (.int .i64 a2)], [] => some (nat_down.f N a1 a2, fun r => .one (.agg [.il .u32 1 r]) [])
  | _, _ => none }
theorem nat_down.env (N : Nat) : EnvOK Try.prog (nat_down.E N) := ⟨(TyOK.cons ty72_ok (TyOK.cons ty74_ok (TyOK.cons ty92_ok (TyOK.cons ty94_ok TyOK.nil)))), (TabOK.cons (nat_cut.ent_ok N) TabOK.nil)⟩
theorem nat_down.res_eq (N : Nat) : (nat_down.E N).res = Try.f98.results.toList := by kernel_rfl
theorem nat_down.k3 (N : Nat) : CutOK Try.prog Try.f98 (nat_down.E N) (.loop nat_down.b3) := by
  intro e hd he hh R vs H k r h
  have e1 : (nat_down.E N).cut (loopKey nat_down.b3) = some (nat_down.c3 N) := by kernel_rfl
  have e2 : (nat_down.E N).hint (loopKey nat_down.b3) = some nat_down.h3 := by kernel_rfl
  rw [e1] at he; rw [e2] at hh; cases he; cases hh
  unfold nat_down.c3 at h; dsimp only at h
  split at h
  · rw [← nat_down.l3_eq] at h
    exact loop_ok (evCode_ok (nat_down.env N) Try_mixed (nat_down.res_eq N) 394 nat_down.b3 (AllCut.of (l := []) (by kernel_rfl) AllCut.nil)) h
  · cases h
theorem nat_down.spec (N : Nat) (a1 : List Int) (a2 : Int) (r : List Int) (h : nat_down.f N a1 a2 = some r) : FnSpec Try.prog 98 [.il .u32 1 a1, .c (.int .i64 a2)] [] (.agg [.il .u32 1 r]) ([]) := by
  rw [← nat_down.f_eq] at h
  refine (evFun_ok (nat_down.env N) Try_mixed Try.func98 (by kernel_rfl : Try.f98.body = some nat_down.body) (by kernel_rfl) (nat_down.res_eq N) (by kernel_rfl) (by kernel_rfl) (Nat.le_of_ble_eq_true (by kernel_rfl)) (AllCut.of (l := [(.loop (inner ((subLoops nat_down.body).getD 0 .skip)))]) (by kernel_rfl) (AllCut.cons (nat_down.k3 N) AllCut.nil)) h).of fun v bs' h1 => ?_
  unfold nat_down.dec at h1; split at h1
  · cases h1; exact ⟨rfl, rfl⟩
  · cases h1
theorem nat_down.ent_ok (N : Nat) : TabOK1 Try.prog 98 (nat_down.ent N) := by
  intro args bs a enc h
  simp only [nat_down.ent] at h
  split at h
  · rename_i hz; have h0 := Option.some.inj h; have h1 := congrArg Prod.fst h0; have h2 := congrArg Prod.snd h0; dsimp only at h1 h2; subst h2; exact FnSpec.of_freeze hz (nat_down.spec N _ _ a h1)
  · cases h
/-! parquet/nat.away: function 97 -/
noncomputable def nat_away.l3 {R : Type} (N : Nat) : Nat → Nat → Nat → List Int → Int → Int → Int → Int → Int → List Int → (Int → List Int → Option R) → Option R
  | 0, _, _, _, _, _, _, _, _, _, _ => none
  | n + 1, x6, x7, x8, x9, x10, x11, x12, x13, x14, k0 =>
    bif decide (x13 < x12) then
      bif decide (x13 < (x8.length : Int)) then
        bif (decide (0 ≤ x13)) && (decide (x13 < (x8.length : Int))) then
          bif (decide (0 ≤ x13)) && (decide (x13 < (x7 : Int))) then
            (bits_Sub32.f N (x14.getD (x6 + x13.toNat) 0) (wu32 (wu64 (x10 + (wu64 ((wu64 (x8.getD x13.toNat 0)) * (wu64 x9)))))) x11).bind fun r15 =>
            bif (decide (0 ≤ x13)) && (decide (x13 < (x7 : Int))) then
              nat_away.l3 N n x6 x7 x8 x9 (Int.fdiv (wu64 (x10 + (wu64 ((wu64 (x8.getD x13.toNat 0)) * (wu64 x9))))) (2 ^ 32)) r15.2 x12 (wi64 (x13 + 1)) (x14.set (x6 + x13.toNat) r15.1) k0
            else none
          else none
        else none
      else
      bif (decide (0 ≤ x13)) && (decide (x13 < (x7 : Int))) then
        (bits_Sub32.f N (x14.getD (x6 + x13.toNat) 0) (wu32 x10) x11).bind fun r16 =>
        bif (decide (0 ≤ x13)) && (decide (x13 < (x7 : Int))) then
          nat_away.l3 N n x6 x7 x8 x9 (Int.fdiv x10 (2 ^ 32)) r16.2 x12 (wi64 (x13 + 1)) (x14.set (x6 + x13.toNat) r16.1) k0
        else none
      else none
    else
    k0 x11 x14
noncomputable def nat_away.f (N : Nat) (a1 : Nat) (a2 : Nat) (a3 : List Int) (a4 : Int) (a5 : List Int) : Option (Bool × List Int) :=
  nat_away.l3 N N a1 a2 a3 a4 0 0 (a2 : Int) 0 a5
    (fun y19 y20 =>
      some (y19 != 0, y20))
noncomputable def nat_away.body : Code := (Try.f97.body).getD .skip
noncomputable def nat_away.ty : List (Nat × TI) := [(72, ty72), (92, ty92), (94, ty94)]
noncomputable def nat_away.h3 : Hint := ⟨[(0, .any), (1, .il .u32 1), (2, .any), (7, .any), (8, .any), (11, .any), (12, .any)], [(8, .any)]⟩
noncomputable def nat_away.c3 (N : Nat) : Cut := ⟨fun vs H k => match vs, H with
  | [.sl 0 1 x6 x7, .il .u32 1 x8, .c (.int .u32 x9), .c (.int .u64 x10), .c (.int .u32 x11), .c (.int .i64 x12), .c (.int .i64 x13)], [.ints .u32 x14] => nat_away.l3 N N x6 x7 x8 x9 x10 x11 x12 x13 x14 (fun x17 x18 => k (.exit 0) ⟨mkT nat_away.h3.out [.c (.int .u32 x17)], [.ints .u32 x18]⟩)
  | _, _ => none⟩
noncomputable def nat_away.E (N : Nat) : Env := { ty := lookN nat_away.ty, tab := lookN [(102, bits_Sub32.ent N)], hint := lookN [(3, nat_away.h3)], cut := lookN [(3, nat_away.c3 N)], N := N, res := [.tmp 6], rsh := [.any], nb := 1, ntmps := 48, own := false }
noncomputable def nat_away.b3 : Code := inner ((subLoops nat_away.body).getD 0 .skip)
set_option maxRecDepth 100000 in
theorem nat_away.l3_eq {R : Type} (N n : Nat) (x6 : Nat) (x7 : Nat) (x8 : List Int) (x9 : Int) (x10 : Int) (x11 : Int) (x12 : Int) (x13 : Int) (x14 : List Int) (k : Ex → St → Option R) :
    evLoop 1 nat_away.h3 (fun s k => evCode (nat_away.E N) 394 nat_away.b3 s k) n [.sl 0 1 x6 x7, .il .u32 1 x8, .c (.int .u32 x9), .c (.int .u64 x10), .c (.int .u32 x11), .c (.int .i64 x12), .c (.int .i64 x13)] [.ints .u32 x14] k = nat_away.l3 N n x6 x7 x8 x9 x10 x11 x12 x13 x14 (fun x17 x18 => k (.exit 0) ⟨mkT nat_away.h3.out [.c (.int .u32 x17)], [.ints .u32 x18]⟩) := by
  induction n generalizing x6 x7 x8 x9 x10 x11 x12 x13 x14 with
  | zero => kernel_rfl
  | succ n ih =>
    simp only [nat_away.l3, ← ih]
    kernel_rfl
noncomputable def nat_away.dec (v : V) (bs : List Blk) : Option (Bool × List Int) := match v, bs with
  | .c (.bool z0), [.ints .u32 z1] => some (z0, z1)
  | _, _ => none
set_option maxRecDepth 100000 in
theorem nat_away.f_eq (N : Nat) (a1 : Nat) (a2 : Nat) (a3 : List Int) (a4 : Int) (a5 : List Int) :
    evFun (nat_away.E N) nat_away.body [.sl 0 1 a1 a2, .il .u32 1 a3, .c (.int .u32 a4)] [.ints .u32 a5] nat_away.dec = nat_away.f N a1 a2 a3 a4 a5 := by kernel_rfl
noncomputable def nat_away.ent (N : Nat) : Entry := { A := Bool × List Int, fresh := 0, imm := [false, true, true], dec := fun args bs => match asSlL (blkAt bs) [true, false, false] args, bs with
  | [.sl 0 1 a1 a2, .il .u32 1 a3, .c (.int .u32 a4)], [.ints .u32 a5] => some (nat_away.f N a1 a2 a3 a4 a5, fun r => .one (.c (.bool r.1)) [.ints .u32 r.2])
  | _, _ => none }
theorem nat_away.env (N : Nat) : EnvOK Try.prog (nat_away.E N) := ⟨(TyOK.cons ty72_ok (TyOK.cons ty92_ok (TyOK.cons ty94_ok TyOK.nil))), (TabOK.cons (bits_Sub32.ent_ok N) TabOK.nil)⟩
theorem nat_away.res_eq (N : Nat) : (nat_away.E N).res = Try.f97.results.toList := by kernel_rfl
theorem nat_away.k3 (N : Nat) : CutOK Try.prog Try.f97 (nat_away.E N) (.loop nat_away.b3) := by
  intro e hd he hh R vs H k r h
  have e1 : (nat_away.E N).cut (loopKey nat_away.b3) = some (nat_away.c3 N) := by kernel_rfl
  have e2 : (nat_away.E N).hint (loopKey nat_away.b3) = some nat_away.h3 := by kernel_rfl
  rw [e1] at he; rw [e2] at hh; cases he; cases hh
  unfold nat_away.c3 at h; dsimp only at h
  split at h
  · rw [← nat_away.l3_eq] at h
    exact loop_ok (evCode_ok (nat_away.env N) Try_mixed (nat_away.res_eq N) 394 nat_away.b3 (AllCut.of (l := []) (by kernel_rfl) AllCut.nil)) h
  · cases h
theorem nat_away.spec (N : Nat) (a1 : Nat) (a2 : Nat) (a3 : List Int) (a4 : Int) (a5 : List Int) (r : Bool × List Int) (h : nat_away.f N a1 a2 a3 a4 a5 = some r) : FnSpec Try.prog 97 [.sl 0 1 a1 a2, .il .u32 1 a3, .c (.int .u32 a4)] [.ints .u32 a5] (.c (.bool r.1)) ([.ints .u32 r.2]) := by
  rw [← nat_away.f_eq] at h
  refine (evFun_ok (nat_away.env N) Try_mixed Try.func97 (by kernel_rfl : Try.f97.body = some nat_away.body) (by kernel_rfl) (nat_away.res_eq N) (by kernel_rfl) (by kernel_rfl) (Nat.le_of_ble_eq_true (by kernel_rfl)) (AllCut.of (l := [(.loop (inner ((subLoops nat_away.body).getD 0 .skip)))]) (by kernel_rfl) (AllCut.cons (nat_away.k3 N) AllCut.nil)) h).of fun v bs' h1 => ?_
  unfold nat_away.dec at h1; split at h1
  · cases h1; exact ⟨rfl, rfl⟩
  · cases h1
theorem nat_away.ent_ok (N : Nat) : TabOK1 Try.prog 97 (nat_away.ent N) := by
  intro args bs a enc h
  simp only [nat_away.ent] at h
  split at h
  · rename_i hz; have h0 := Option.some.inj h; have h1 := congrArg Prod.fst h0; have h2 := congrArg Prod.snd h0; dsimp only at h1 h2; subst h2; exact FnSpec.of_asSl (fl := [true, false, false]) (by rw [hz]; exact nat_away.spec N _ _ _ _ _ a h1)
  · cases h
/-! parquet/nat.long: function 91 -/
noncomputable def nat_long.l11 {R : Type} (N : Nat) : Nat → Int → Int → Int → Int → Int → List Int → List Int → List Int → (Int → Int → Int → Int → List Int → List Int → List Int → Option R) → Option R
  | 0, _, _, _, _, _, _, _, _, _ => none
  | n + 1, x12, x13, x14, x15, x16, x17, x18, x19, k2 =>
    bif (Int.fdiv x15 (2 ^ 32)) != 0 then
      bif (decide (0 ≤ (wi64 (x12 - 1)))) && (decide ((wi64 (x12 - 1)) < (x17.length : Int))) then
        bif (Int.fdiv (wu64 (x16 + (wu64 (x17.getD ((wi64 (x12 - 1)).toNat) 0)))) (2 ^ 32)) != 0 then
          k2 x12 x13 x14 (wu64 (x15 - 1)) x17 x18 x19
        else
        nat_long.l11 N n x12 x13 x14 (wu64 (x15 - 1)) (wu64 (x16 + (wu64 (x17.getD ((wi64 (x12 - 1)).toNat) 0)))) x17 x18 x19 k2
      else none
    else
    bif (decide (0 ≤ (wi64 (x12 - 2)))) && (decide ((wi64 (x12 - 2)) < (x17.length : Int))) then
      bif (decide (0 ≤ (wi64 ((wi64 (x14 + x12)) - 2)))) && (decide ((wi64 ((wi64 (x14 + x12)) - 2)) < (x18.length : Int))) then
        bif decide ((wu64 (x15 * (wu64 (x17.getD ((wi64 (x12 - 2)).toNat) 0)))) > (bit_or .u64 (wu64 (x16 * 2 ^ 32)) (wu64 (x18.getD ((wi64 ((wi64 (x14 + x12)) - 2)).toNat) 0)))) then
          bif (decide (0 ≤ (wi64 (x12 - 1)))) && (decide ((wi64 (x12 - 1)) < (x17.length : Int))) then
            bif (Int.fdiv (wu64 (x16 + (wu64 (x17.getD ((wi64 (x12 - 1)).toNat) 0)))) (2 ^ 32)) != 0 then
              k2 x12 x13 x14 (wu64 (x15 - 1)) x17 x18 x19
            else
            nat_long.l11 N n x12 x13 x14 (wu64 (x15 - 1)) (wu64 (x16 + (wu64 (x17.getD ((wi64 (x12 - 1)).toNat) 0)))) x17 x18 x19 k2
          else none
        else
        k2 x12 x13 x14 x15 x17 x18 x19
      else none
    else none
noncomputable def nat_long.l21 {R : Type} (N : Nat) : Nat → Int → Int → Int → Nat → Nat → Int → Int → Int → List Int → List Int → List Int → (Int → Int → Int → List Int → List Int → List Int → Option R) → Option R
  | 0, _, _, _, _, _, _, _, _, _, _, _, _ => none
  | n + 1, x35, x36, x37, x38, x39, x40, x41, x42, x43, x44, x45, k4 =>
    bif decide (x42 < x41) then
      bif (decide (0 ≤ x42)) && (decide (x42 < (x39 : Int))) then
        bif decide (x42 < x35) then
          bif (decide (0 ≤ x42)) && (decide (x42 < (x43.length : Int))) then
            bif (decide (0 ≤ x42)) && (decide (x42 < (x39 : Int))) then
              nat_long.l21 N n x35 x36 x37 x38 x39 (Int.fdiv (wu64 ((wu64 (x40 + (wu64 (x44.getD (x38 + x42.toNat) 0)))) + (wu64 (x43.getD x42.toNat 0)))) (2 ^ 32)) x41 (wi64 (x42 + 1)) x43 (x44.set (x38 + x42.toNat) (wu32 (wu64 ((wu64 (x40 + (wu64 (x44.getD (x38 + x42.toNat) 0)))) + (wu64 (x43.getD x42.toNat 0)))))) x45 k4
            else none
          else none
        else
        bif (decide (0 ≤ x42)) && (decide (x42 < (x39 : Int))) then
          nat_long.l21 N n x35 x36 x37 x38 x39 (Int.fdiv (wu64 (x40 + (wu64 (x44.getD (x38 + x42.toNat) 0)))) (2 ^ 32)) x41 (wi64 (x42 + 1)) x43 (x44.set (x38 + x42.toNat) (wu32 (wu64 (x40 + (wu64 (x44.getD (x38 + x42.toNat) 0)))))) x45 k4
        else none
      else none
    else
    k4 x35 x36 x37 x43 x44 x45
noncomputable def nat_long.l7 {R : Type} (N : Nat) : Nat → Int → Int → Int → List Int → List Int → List Int → (Int → List Int → List Int → Option R) → Option R
  | 0, _, _, _, _, _, _, _ => none
  | n + 1, x6, x7, x8, x9, x10, x11, k0 =>
    bif decide (x8 ≥ 0) then
      bif (decide (0 ≤ (wi64 (x8 + x6)))) && (decide ((wi64 (x8 + x6)) < (x10.length : Int))) then
        bif (decide (0 ≤ (wi64 ((wi64 (x8 + x6)) - 1)))) && (decide ((wi64 ((wi64 (x8 + x6)) - 1)) < (x10.length : Int))) then
          bif (decide (0 ≤ (wi64 (x6 - 1)))) && (decide ((wi64 (x6 - 1)) < (x9.length : Int))) then
            bif !((wu64 (x9.getD ((wi64 (x6 - 1)).toNat) 0)) == 0) then
              bif (decide (0 ≤ (wi64 (x6 - 1)))) && (decide ((wi64 (x6 - 1)) < (x9.length : Int))) then
                bif !((wu64 (x9.getD ((wi64 (x6 - 1)).toNat) 0)) == 0) then
                  nat_long.l11 N N x6 x7 x8 (wu64 (Int.tdiv (bit_or .u64 (wu64 ((wu64 (x10.getD ((wi64 (x8 + x6)).toNat) 0)) * 2 ^ 32)) (wu64 (x10.getD ((wi64 ((wi64 (x8 + x6)) - 1)).toNat) 0))) (wu64 (x9.getD ((wi64 (x6 - 1)).toNat) 0)))) (Int.tmod (bit_or .u64 (wu64 ((wu64 (x10.getD ((wi64 (x8 + x6)).toNat) 0)) * 2 ^ 32)) (wu64 (x10.getD ((wi64 ((wi64 (x8 + x6)) - 1)).toNat) 0))) (wu64 (x9.getD ((wi64 (x6 - 1)).toNat) 0))) x9 x10 x11
                    (fun y27 y28 y29 y30 y31 y32 y33 =>
                      bif (((decide (0 ≤ y29)) && (decide (y29 ≤ (wi64 ((wi64 (y29 + y27)) + 1))))) && (decide ((wi64 ((wi64 (y29 + y27)) + 1)) ≤ (wi64 ((wi64 (y29 + y27)) + 1))))) && (decide ((wi64 ((wi64 (y29 + y27)) + 1)) ≤ (y32.length : Int))) then
                        (nat_away.f N y29.toNat (((wi64 ((wi64 (y29 + y27)) + 1)).toNat) - y29.toNat) y31 (wu32 y30) y32).bind fun r34 =>
                        bif !r34.1 then
                          bif (decide (0 ≤ y29)) && (decide (y29 < (y33.length : Int))) then
                            nat_long.l7 N n y27 y28 (wi64 (y29 - 1)) y31 r34.2 (y33.set y29.toNat (wu32 y30)) k0
                          else none
                        else
                        bif (decide (0 ≤ y29)) && (decide (y29 < (y33.length : Int))) then
                          nat_long.l21 N N y27 y28 y29 y29.toNat (((wi64 ((wi64 (y29 + y27)) + 1)).toNat) - y29.toNat) 0 ((((wi64 ((wi64 (y29 + y27)) + 1)).toNat) - y29.toNat : Nat) : Int) 0 y31 r34.2 (y33.set y29.toNat (wu32 ((wu32 y30) - 1)))
                            (fun y52 y53 y54 y55 y56 y57 =>
                              nat_long.l7 N n y52 y53 (wi64 (y54 - 1)) y55 y56 y57 k0)
                        else none
                      else none)
                else none
              else none
            else none
          else none
        else none
      else none
    else
    k0 x7 x10 x11
noncomputable def nat_long.f (N : Nat) (a1 : List Int) (a2 : List Int) : Option (List Int × List Int) :=
  bif (decide (0 ≤ (wi64 ((a2.length : Int) - 1)))) && (decide ((wi64 ((a2.length : Int) - 1)) < (a2.length : Int))) then
    (bits_LeadingZeros32.f N (a2.getD ((wi64 ((a2.length : Int) - 1)).toNat) 0)).bind fun r3 =>
    (nat_up.f N a2 r3 (a2.length : Int)).bind fun r4 =>
    (nat_up.f N a1 r3 (wi64 ((a1.length : Int) + 1))).bind fun r5 =>
    bif decide (wi64 ((r5.length : Int) - (a2.length : Int)) = wi64 ((r5.length : Int) - (a2.length : Int))) && decide (0 ≤ wi64 ((r5.length : Int) - (a2.length : Int))) && decide (wi64 ((r5.length : Int) - (a2.length : Int)) ≤ 9223372036854775807) && roomy ((wi64 ((r5.length : Int) - (a2.length : Int))).toNat) 4 then
      nat_long.l7 N N (a2.length : Int) r3 (wi64 ((wi64 ((r5.length : Int) - (a2.length : Int))) - 1)) r4 r5 (List.replicate ((wi64 ((r5.length : Int) - (a2.length : Int))).toNat) (0 : Int))
        (fun y61 y62 y63 =>
          (nat_cut.f N 0 y63.length y63).bind fun r64 =>
          (nat_down.f N y62 y61).bind fun r65 =>
          some ((r64.2.2.drop r64.1).take r64.2.1, r65))
    else none
  else none
noncomputable def nat_long.body : Code := (Try.f91.body).getD .skip
noncomputable def nat_long.ty : List (Nat × TI) := [(72, ty72), (74, ty74), (92, ty92), (94, ty94)]
noncomputable def nat_long.h7 : Hint := ⟨[(4, .box [.any]), (5, .box [.any]), (6, .any), (7, .any), (8, .row .u32 1), (9, .row .u32 1), (11, .row .u32 1), (12, .any)], [(4, .box [.any]), (5, .box [.any]), (7, .any), (9, .row .u32 1), (11, .row .u32 1)]⟩
noncomputable def nat_long.h11 : Hint := ⟨[(4, .box [.any]), (5, .box [.any]), (6, .any), (7, .any), (8, .row .u32 1), (9, .row .u32 1), (11, .row .u32 1), (12, .any), (14, .any), (15, .any)], [(4, .box [.any]), (5, .box [.any]), (6, .any), (7, .any), (8, .row .u32 1), (9, .row .u32 1), (11, .row .u32 1), (12, .any), (14, .any)]⟩
noncomputable def nat_long.h21 : Hint := ⟨[(4, .box [.any]), (5, .box [.any]), (6, .any), (7, .any), (8, .row .u32 1), (9, .row .u32 1), (11, .row .u32 1), (12, .any), (16, .part .u32 1), (17, .any), (156, .any), (157, .any)], [(4, .box [.any]), (5, .box [.any]), (6, .any), (7, .any), (8, .row .u32 1), (9, .row .u32 1), (11, .row .u32 1), (12, .any)]⟩
noncomputable def nat_long.c11 (N : Nat) : Cut := ⟨fun vs H k => match vs, H with
  | [.ptr 0 0 1, .ptr 1 0 1, .c (.int .i64 x12), .c (.int .i64 x13), .sw 2 1, .sw 3 1, .sw 4 1, .c (.int .i64 x14), .c (.int .u64 x15), .c (.int .u64 x16)], [.vals [.c (.slice none 0 0)], .vals [.c (.slice none 0 0)], .ints .u32 x17, .ints .u32 x18, .ints .u32 x19] => nat_long.l11 N N x12 x13 x14 x15 x16 x17 x18 x19 (fun x20 x21 x22 x23 x24 x25 x26 => k (.exit 2) ⟨mkT nat_long.h11.out [.ptr 0 0 1, .ptr 1 0 1, .c (.int .i64 x20), .c (.int .i64 x21), .sw 2 1, .sw 3 1, .sw 4 1, .c (.int .i64 x22), .c (.int .u64 x23)], [.vals [.c (.slice none 0 0)], .vals [.c (.slice none 0 0)], .ints .u32 x24, .ints .u32 x25, .ints .u32 x26]⟩)
  | _, _ => none⟩
noncomputable def nat_long.c21 (N : Nat) : Cut := ⟨fun vs H k => match vs, H with
  | [.ptr 0 0 1, .ptr 1 0 1, .c (.int .i64 x35), .c (.int .i64 x36), .sw 2 1, .sw 3 1, .sw 4 1, .c (.int .i64 x37), .sl 3 1 x38 x39, .c (.int .u64 x40), .c (.int .i64 x41), .c (.int .i64 x42)], [.vals [.c (.slice none 0 0)], .vals [.c (.slice none 0 0)], .ints .u32 x43, .ints .u32 x44, .ints .u32 x45] => nat_long.l21 N N x35 x36 x37 x38 x39 x40 x41 x42 x43 x44 x45 (fun x46 x47 x48 x49 x50 x51 => k (.exit 4) ⟨mkT nat_long.h21.out [.ptr 0 0 1, .ptr 1 0 1, .c (.int .i64 x46), .c (.int .i64 x47), .sw 2 1, .sw 3 1, .sw 4 1, .c (.int .i64 x48)], [.vals [.c (.slice none 0 0)], .vals [.c (.slice none 0 0)], .ints .u32 x49, .ints .u32 x50, .ints .u32 x51]⟩)
  | _, _ => none⟩
noncomputable def nat_long.c7 (N : Nat) : Cut := ⟨fun vs H k => match vs, H with
  | [.ptr 0 0 1, .ptr 1 0 1, .c (.int .i64 x6), .c (.int .i64 x7), .sw 2 1, .sw 3 1, .sw 4 1, .c (.int .i64 x8)], [.vals [.c (.slice none 0 0)], .vals [.c (.slice none 0 0)], .ints .u32 x9, .ints .u32 x10, .ints .u32 x11] => nat_long.l7 N N x6 x7 x8 x9 x10 x11 (fun x58 x59 x60 => k (.exit 0) ⟨mkT nat_long.h7.out [.ptr 0 0 1, .ptr 1 0 1, .c (.int .i64 x58), .sw 2 1, .sw 3 1], [.vals [.c (.slice none 0 0)], .vals [.c (.slice none 0 0)], .ints .u32 x59, .ints .u32 x60]⟩)
  | _, _ => none⟩
noncomputable def nat_long.E (N : Nat) : Env := { ty := lookN nat_long.ty, tab := lookN [(95, bits_LeadingZeros32.ent N), (96, nat_up.ent N), (97, nat_away.ent N), (87, nat_cut.ent N), (98, nat_down.ent N)], hint := lookN [(7, nat_long.h7), (11, nat_long.h11), (21, nat_long.h21)], cut := lookN [(11, nat_long.c11 N), (21, nat_long.c21 N), (7, nat_long.c7 N)], N := N, res := [.cell 4 74, .cell 5 74], rsh := [.recd [.il .u32 1], .recd [.il .u32 1]], nb := 0, ntmps := 190, own := false }
noncomputable def nat_long.b11 : Code := inner ((subLoops nat_long.body).getD 2 .skip)
set_option maxRecDepth 100000 in
theorem nat_long.l11_eq {R : Type} (N n : Nat) (x12 : Int) (x13 : Int) (x14 : Int) (x15 : Int) (x16 : Int) (x17 : List Int) (x18 : List Int) (x19 : List Int) (k : Ex → St → Option R) :
    evLoop 0 nat_long.h11 (fun s k => evCode (nat_long.E N) 380 nat_long.b11 s k) n [.ptr 0 0 1, .ptr 1 0 1, .c (.int .i64 x12), .c (.int .i64 x13), .sw 2 1, .sw 3 1, .sw 4 1, .c (.int .i64 x14), .c (.int .u64 x15), .c (.int .u64 x16)] [.vals [.c (.slice none 0 0)], .vals [.c (.slice none 0 0)], .ints .u32 x17, .ints .u32 x18, .ints .u32 x19] k = nat_long.l11 N n x12 x13 x14 x15 x16 x17 x18 x19 (fun x20 x21 x22 x23 x24 x25 x26 => k (.exit 2) ⟨mkT nat_long.h11.out [.ptr 0 0 1, .ptr 1 0 1, .c (.int .i64 x20), .c (.int .i64 x21), .sw 2 1, .sw 3 1, .sw 4 1, .c (.int .i64 x22), .c (.int .u64 x23)], [.vals [.c (.slice none 0 0)], .vals [.c (.slice none 0 0)], .ints .u32 x24, .ints .u32 x25, .ints .u32 x26]⟩) := by
  induction n generalizing x12 x13 x14 x15 x16 x17 x18 x19 with
  | zero => kernel_rfl
  | succ n ih =>
    simp only [nat_long.l11, ← ih]
    kernel_rfl
noncomputable def nat_long.b21 : Code := inner ((subLoops nat_long.body).getD 3 .skip)
set_option maxRecDepth 100000 in
theorem nat_long.l21_eq {R : Type} (N n : Nat) (x35 : Int) (x36 : Int) (x37 : Int) (x38 : Nat) (x39 : Nat) (x40 : Int) (x41 : Int) (x42 : Int) (x43 : List Int) (x44 : List Int) (x45 : List Int) (k : Ex → St → Option R) :
    evLoop 0 nat_long.h21 (fun s k => evCode (nat_long.E N) 375 nat_long.b21 s k) n [.ptr 0 0 1, .ptr 1 0 1, .c (.int .i64 x35), .c (.int .i64 x36), .sw 2 1, .sw 3 1, .sw 4 1, .c (.int .i64 x37), .sl 3 1 x38 x39, .c (.int .u64 x40), .c (.int .i64 x41), .c (.int .i64 x42)] [.vals [.c (.slice none 0 0)], .vals [.c (.slice none 0 0)], .ints .u32 x43, .ints .u32 x44, .ints .u32 x45] k = nat_long.l21 N n x35 x36 x37 x38 x39 x40 x41 x42 x43 x44 x45 (fun x46 x47 x48 x49 x50 x51 => k (.exit 4) ⟨mkT nat_long.h21.out [.ptr 0 0 1, .ptr 1 0 1, .c (.int .i64 x46), .c (.int .i64 x47), .sw 2 1, .sw 3 1, .sw 4 1, .c (.int .i64 x48)], [.vals [.c (.slice none 0 0)], .vals [.c (.slice none 0 0)], .ints .u32 x49, .ints .u32 x50, .ints .u32 x51]⟩) := by
  induction n generalizing x35 x36 x37 x38 x39 x40 x41 x42 x43 x44 x45 with
  | zero => kernel_rfl
  | succ n ih =>
    simp only [nat_long.l21, ← ih]
    kernel_rfl
noncomputable def nat_long.b7 : Code := inner ((subLoops nat_long.body).getD 1 .skip)
set_option maxRecDepth 100000 in
theorem nat_long.l7_eq {R : Type} (N n : Nat) (x6 : Int) (x7 : Int) (x8 : Int) (x9 : List Int) (x10 : List Int) (x11 : List Int) (k : Ex → St → Option R) :
    evLoop 0 nat_long.h7 (fun s k => evCode (nat_long.E N) 388 nat_long.b7 s k) n [.ptr 0 0 1, .ptr 1 0 1, .c (.int .i64 x6), .c (.int .i64 x7), .sw 2 1, .sw 3 1, .sw 4 1, .c (.int .i64 x8)] [.vals [.c (.slice none 0 0)], .vals [.c (.slice none 0 0)], .ints .u32 x9, .ints .u32 x10, .ints .u32 x11] k = nat_long.l7 N n x6 x7 x8 x9 x10 x11 (fun x58 x59 x60 => k (.exit 0) ⟨mkT nat_long.h7.out [.ptr 0 0 1, .ptr 1 0 1, .c (.int .i64 x58), .sw 2 1, .sw 3 1], [.vals [.c (.slice none 0 0)], .vals [.c (.slice none 0 0)], .ints .u32 x59, .ints .u32 x60]⟩) := by
  induction n generalizing x6 x7 x8 x9 x10 x11 with
  | zero => kernel_rfl
  | succ n ih =>
    simp only [nat_long.l7, ← ih]
    kernel_rfl
noncomputable def nat_long.dec (v : V) (bs : List Blk) : Option (List Int × List Int) := match v, bs with
  | .tup [.agg [.il .u32 1 z0], .agg [.il .u32 1 z1]], [] => some (z0, z1)
  | _, _ => none
set_option maxRecDepth 100000 in
theorem nat_long.f_eq (N : Nat) (a1 : List Int) (a2 : List Int) :
    evFun (nat_long.E N) nat_long.body [.agg [.il .u32 1 a1], .agg [.il .u32 1 a2]] [] nat_long.dec = nat_long.f N a1 a2 := by kernel_rfl
noncomputable def nat_long.ent (N : Nat) : Entry := { A := List Int × List Int, fresh := 0, imm := [true, true], dec := fun args bs => match freezeL 0 (fun _ => .dead) [.recd [.il .u32 1], .recd [.il .u32 1]] args, bs with
  | some [.agg [.il .u32 1 a1], .agg [.il .u32 1 a2]], [] => some (nat_long.f N a1 a2, fun r => .one (.tup [.agg [.il .u32 1 r.1], .agg [.il .u32 1 r.2]]) [])
  | _, _ => none }
theorem nat_long.env (N : Nat) : EnvOK Try.prog (nat_long.E N) := ⟨(TyOK.cons ty72_ok (TyOK.cons ty74_ok (TyOK.cons ty92_ok (TyOK.cons ty94_ok TyOK.nil)))), (TabOK.cons (bits_LeadingZeros32.ent_ok N) (TabOK.cons (nat_up.ent_ok N) (TabOK.cons (nat_away.ent_ok N) (TabOK.cons (nat_cut.ent_ok N) (TabOK.cons (nat_down.ent_ok N) TabOK.nil)))))⟩
theorem nat_long.res_eq (N : Nat) : (nat_long.E N).res = Try.f91.results.toList := by kernel_rfl
theorem nat_long.k21 (N : Nat) : CutOK Try.prog Try.f91 (nat_long.E N) (.loop nat_long.b21) := by
  intro e hd he hh R vs H k r h
  have e1 : (nat_long.E N).cut (loopKey nat_long.b21) = some (nat_long.c21 N) := by kernel_rfl
  have e2 : (nat_long.E N).hint (loopKey nat_long.b21) = some nat_long.h21 := by kernel_rfl
  rw [e1] at he; rw [e2] at hh; cases he; cases hh
  unfold nat_long.c21 at h; dsimp only at h
  split at h
  · rw [← nat_long.l21_eq] at h
    exact loop_ok (evCode_ok (nat_long.env N) Try_mixed (nat_long.res_eq N) 375 nat_long.b21 (AllCut.of (l := []) (by kernel_rfl) AllCut.nil)) h
  · cases h
theorem nat_long.k11 (N : Nat) : CutOK Try.prog Try.f91 (nat_long.E N) (.loop nat_long.b11) := by
  intro e hd he hh R vs H k r h
  have e1 : (nat_long.E N).cut (loopKey nat_long.b11) = some (nat_long.c11 N) := by kernel_rfl
  have e2 : (nat_long.E N).hint (loopKey nat_long.b11) = some nat_long.h11 := by kernel_rfl
  rw [e1] at he; rw [e2] at hh; cases he; cases hh
  unfold nat_long.c11 at h; dsimp only at h
  split at h
  · rw [← nat_long.l11_eq] at h
    exact loop_ok (evCode_ok (nat_long.env N) Try_mixed (nat_long.res_eq N) 380 nat_long.b11 (AllCut.of (l := []) (by kernel_rfl) AllCut.nil)) h
  · cases h
theorem nat_long.k7 (N : Nat) : CutOK Try.prog Try.f91 (nat_long.E N) (.loop nat_long.b7) := by
  intro e hd he hh R vs H k r h
  have e1 : (nat_long.E N).cut (loopKey nat_long.b7) = some (nat_long.c7 N) := by kernel_rfl
  have e2 : (nat_long.E N).hint (loopKey nat_long.b7) = some nat_long.h7 := by kernel_rfl
  rw [e1] at he; rw [e2] at hh; cases he; cases hh
  unfold nat_long.c7 at h; dsimp only at h
  split at h
  · rw [← nat_long.l7_eq] at h
    exact loop_ok (evCode_ok (nat_long.env N) Try_mixed (nat_long.res_eq N) 388 nat_long.b7 (AllCut.of (l := [(.loop (inner ((subLoops nat_long.body).getD 2 .skip))), (.loop (inner ((subLoops nat_long.body).getD 3 .skip)))]) (by kernel_rfl) (AllCut.cons (nat_long.k11 N) (AllCut.cons (nat_long.k21 N) AllCut.nil)))) h
  · cases h
theorem nat_long.spec (N : Nat) (a1 : List Int) (a2 : List Int) (r : List Int × List Int) (h : nat_long.f N a1 a2 = some r) : FnSpec Try.prog 91 [.agg [.il .u32 1 a1], .agg [.il .u32 1 a2]] [] (.tup [.agg [.il .u32 1 r.1], .agg [.il .u32 1 r.2]]) ([]) := by
  rw [← nat_long.f_eq] at h
  refine (evFun_ok (nat_long.env N) Try_mixed Try.func91 (by kernel_rfl : Try.f91.body = some nat_long.body) (by kernel_rfl) (nat_long.res_eq N) (by kernel_rfl) (by kernel_rfl) (Nat.le_of_ble_eq_true (by kernel_rfl)) (AllCut.of (l := [(.scope (inner ((subLoops nat_long.body).getD 0 .skip))), (.loop (inner ((subLoops nat_long.body).getD 1 .skip))), (.loop (inner ((subLoops nat_long.body).getD 2 .skip))), (.loop (inner ((subLoops nat_long.body).getD 3 .skip)))]) (by kernel_rfl) (AllCut.cons (cut_scope (by kernel_rfl)) (AllCut.cons (nat_long.k7 N) (AllCut.cons (nat_long.k11 N) (AllCut.cons (nat_long.k21 N) AllCut.nil))))) h).of fun v bs' h1 => ?_
  unfold nat_long.dec at h1; split at h1
  · cases h1; exact ⟨rfl, rfl⟩
  · cases h1
theorem nat_long.ent_ok (N : Nat) : TabOK1 Try.prog 91 (nat_long.ent N) := by
  intro args bs a enc h
  simp only [nat_long.ent] at h
  split at h
  · rename_i hz; have h0 := Option.some.inj h; have h1 := congrArg Prod.fst h0; have h2 := congrArg Prod.snd h0; dsimp only at h1 h2; subst h2; exact FnSpec.of_freeze hz (nat_long.spec N _ _ a h1)
  · cases h
/-! parquet/nat.Div: function 80 -/
noncomputable def nat_Div.f (N : Nat) (a1 : List Int) (a2 : List Int) : Option (List Int × List Int × Int) :=
  bif (a2.length : Int) == 0 then
    some ([], [], 11)
  else
  (nat_Cmp.f N a1 a2).bind fun r3 =>
  bif decide (r3 < 0) then
    some ([], a1, 0)
  else
  bif (a2.length : Int) == 1 then
    bif roomy a1.length 4 then
      bif decide (0 < (a2.length : Int)) then
        (nat_short.f N 0 a1.length (a2.getD 0 0) a1).bind fun r4 =>
        (nat_cut.f N 0 r4.2.length r4.2).bind fun r5 =>
        (nat_Of.f N (wu64 r4.1)).bind fun r6 =>
        some ((r5.2.2.drop r5.1).take r5.2.1, r6, 0)
      else none
    else none
  else
  (nat_long.f N a1 a2).bind fun r7 =>
  some (r7.1, r7.2, 0)
noncomputable def nat_Div.body : Code := (Try.f80.body).getD .skip
noncomputable def nat_Div.ty : List (Nat × TI) := [(72, ty72), (74, ty74), (92, ty92), (94, ty94)]
noncomputable def nat_Div.E (N : Nat) : Env := { ty := lookN nat_Div.ty, tab := lookN [(89, nat_Cmp.ent N), (90, nat_short.ent N), (87, nat_cut.ent N), (72, nat_Of.ent N), (91, nat_long.ent N)], hint := lookN [], cut := lookN [], N := N, res := [.cell 4 74, .cell 5 74, .tmp 6], rsh := [.recd [.il .u32 1], .recd [.il .u32 1], .any], nb := 0, ntmps := 47, own := false }
noncomputable def nat_Div.dec (v : V) (bs : List Blk) : Option (List Int × List Int × Int) := match v, bs with
  | .tup [.agg [.il .u32 1 z0], .agg [.il .u32 1 z1], .c (.int .i64 z2)], [] => some (z0, z1, z2)
  | _, _ => none
set_option maxRecDepth 100000 in
theorem nat_Div.f_eq (N : Nat) (a1 : List Int) (a2 : List Int) :
    evFun (nat_Div.E N) nat_Div.body [.agg [.il .u32 1 a1], .agg [.il .u32 1 a2]] [] nat_Div.dec = nat_Div.f N a1 a2 := by kernel_rfl
noncomputable def nat_Div.ent (N : Nat) : Entry := { A := List Int × List Int × Int, fresh := 0, imm := [true, true], dec := fun args bs => match freezeL 0 (fun _ => .dead) [.recd [.il .u32 1], .recd [.il .u32 1]] args, bs with
  | some [.agg [.il .u32 1 a1], .agg [.il .u32 1 a2]], [] => some (nat_Div.f N a1 a2, fun r => .one (.tup [.agg [.il .u32 1 r.1], .agg [.il .u32 1 r.2.1], .c (.int .i64 r.2.2)]) [])
  | _, _ => none }
theorem nat_Div.env (N : Nat) : EnvOK Try.prog (nat_Div.E N) := ⟨(TyOK.cons ty72_ok (TyOK.cons ty74_ok (TyOK.cons ty92_ok (TyOK.cons ty94_ok TyOK.nil)))), (TabOK.cons (nat_Cmp.ent_ok N) (TabOK.cons (nat_short.ent_ok N) (TabOK.cons (nat_cut.ent_ok N) (TabOK.cons (nat_Of.ent_ok N) (TabOK.cons (nat_long.ent_ok N) TabOK.nil)))))⟩
theorem nat_Div.res_eq (N : Nat) : (nat_Div.E N).res = Try.f80.results.toList := by kernel_rfl
theorem nat_Div.spec (N : Nat) (a1 : List Int) (a2 : List Int) (r : List Int × List Int × Int) (h : nat_Div.f N a1 a2 = some r) : FnSpec Try.prog 80 [.agg [.il .u32 1 a1], .agg [.il .u32 1 a2]] [] (.tup [.agg [.il .u32 1 r.1], .agg [.il .u32 1 r.2.1], .c (.int .i64 r.2.2)]) ([]) := by
  rw [← nat_Div.f_eq] at h
  refine (evFun_ok (nat_Div.env N) Try_mixed Try.func80 (by kernel_rfl : Try.f80.body = some nat_Div.body) (by kernel_rfl) (nat_Div.res_eq N) (by kernel_rfl) (by kernel_rfl) (Nat.le_of_ble_eq_true (by kernel_rfl)) (AllCut.of (l := []) (by kernel_rfl) AllCut.nil) h).of fun v bs' h1 => ?_
  unfold nat_Div.dec at h1; split at h1
  · cases h1; exact ⟨rfl, rfl⟩
  · cases h1
theorem nat_Div.ent_ok (N : Nat) : TabOK1 Try.prog 80 (nat_Div.ent N) := by
  intro args bs a enc h
  simp only [nat_Div.ent] at h
  split at h
  · rename_i hz; have h0 := Option.some.inj h; have h1 := congrArg Prod.fst h0; have h2 := congrArg Prod.snd h0; dsimp only at h1 h2; subst h2; exact FnSpec.of_freeze hz (nat_Div.spec N _ _ a h1)
  · cases h
/-! parquet/nat.Gcd: function 68 -/
noncomputable def nat_Gcd.l1 {R : Type} (N : Nat) : Nat → List Int → List Int → (List Int → Option R) → Option R
  | 0, _, _, _ => none
  | n + 1, x3, x4, k0 =>
    bif decide ((x4.length : Int) > 0) then
      (nat_Div.f N x3 x4).bind fun r5 =>
      nat_Gcd.l1 N n x4 r5.2.1 k0
    else
    k0 x3
noncomputable def nat_Gcd.f (N : Nat) (a1 : List Int) (a2 : List Int) : Option (List Int) :=
  nat_Gcd.l1 N N a1 a2
    (fun y7 =>
      some y7)
noncomputable def nat_Gcd.body : Code := (Try.f68.body).getD .skip
noncomputable def nat_Gcd.ty : List (Nat × TI) := [(72, ty72), (74, ty74)]
noncomputable def nat_Gcd.h1 : Hint := ⟨[(2, .box [.il .u32 1]), (3, .box [.il .u32 1]), (4, .box [.any])], [(2, .box [.il .u32 1]), (4, .box [.any])]⟩
noncomputable def nat_Gcd.c1 (N : Nat) : Cut := ⟨fun vs H k => match vs, H with
  | [.ptr 0 0 1, .ptr 1 0 1, .ptr 2 0 1], [.vals [.il .u32 1 x3], .vals [.il .u32 1 x4], .vals [.c (.slice none 0 0)]] => nat_Gcd.l1 N N x3 x4 (fun x6 => k (.exit 0) ⟨mkT nat_Gcd.h1.out [.ptr 0 0 1, .ptr 1 0 1], [.vals [.il .u32 1 x6], .vals [.c (.slice none 0 0)]]⟩)
  | _, _ => none⟩
noncomputable def nat_Gcd.E (N : Nat) : Env := { ty := lookN nat_Gcd.ty, tab := lookN [(80, nat_Div.ent N)], hint := lookN [(1, nat_Gcd.h1)], cut := lookN [(1, nat_Gcd.c1 N)], N := N, res := [.cell 4 74], rsh := [.recd [.il .u32 1]], nb := 0, ntmps := 22, own := false }
noncomputable def nat_Gcd.b1 : Code := inner ((subLoops nat_Gcd.body).getD 0 .skip)
set_option maxRecDepth 100000 in
theorem nat_Gcd.l1_eq {R : Type} (N n : Nat) (x3 : List Int) (x4 : List Int) (k : Ex → St → Option R) :
    evLoop 0 nat_Gcd.h1 (fun s k => evCode (nat_Gcd.E N) 396 nat_Gcd.b1 s k) n [.ptr 0 0 1, .ptr 1 0 1, .ptr 2 0 1] [.vals [.il .u32 1 x3], .vals [.il .u32 1 x4], .vals [.c (.slice none 0 0)]] k = nat_Gcd.l1 N n x3 x4 (fun x6 => k (.exit 0) ⟨mkT nat_Gcd.h1.out [.ptr 0 0 1, .ptr 1 0 1], [.vals [.il .u32 1 x6], .vals [.c (.slice none 0 0)]]⟩) := by
  induction n generalizing x3 x4 with
  | zero => kernel_rfl
  | succ n ih =>
    simp only [nat_Gcd.l1, ← ih]
    kernel_rfl
noncomputable def nat_Gcd.dec (v : V) (bs : List Blk) : Option (List Int) := match v, bs with
  | .agg [.il .u32 1 z0], [] => some z0
  | _, _ => none
set_option maxRecDepth 100000 in
theorem nat_Gcd.f_eq (N : Nat) (a1 : List Int) (a2 : List Int) :
    evFun (nat_Gcd.E N) nat_Gcd.body [.agg [.il .u32 1 a1], .agg [.il .u32 1 a2]] [] nat_Gcd.dec = nat_Gcd.f N a1 a2 := by kernel_rfl
noncomputable def nat_Gcd.ent (N : Nat) : Entry := { A := List Int, fresh := 0, imm := [true, true], dec := fun args bs => match freezeL 0 (fun _ => .dead) [.recd [.il .u32 1], .recd [.il .u32 1]] args, bs with
  | some [.agg [.il .u32 1 a1], .agg [.il .u32 1 a2]], [] => some (nat_Gcd.f N a1 a2, fun r => .one (.agg [.il .u32 1 r]) [])
  | _, _ => none }
theorem nat_Gcd.env (N : Nat) : EnvOK Try.prog (nat_Gcd.E N) := ⟨(TyOK.cons ty72_ok (TyOK.cons ty74_ok TyOK.nil)), (TabOK.cons (nat_Div.ent_ok N) TabOK.nil)⟩
theorem nat_Gcd.res_eq (N : Nat) : (nat_Gcd.E N).res = Try.f68.results.toList := by kernel_rfl
theorem nat_Gcd.k1 (N : Nat) : CutOK Try.prog Try.f68 (nat_Gcd.E N) (.loop nat_Gcd.b1) := by
  intro e hd he hh R vs H k r h
  have e1 : (nat_Gcd.E N).cut (loopKey nat_Gcd.b1) = some (nat_Gcd.c1 N) := by kernel_rfl
  have e2 : (nat_Gcd.E N).hint (loopKey nat_Gcd.b1) = some nat_Gcd.h1 := by kernel_rfl
  rw [e1] at he; rw [e2] at hh; cases he; cases hh
  unfold nat_Gcd.c1 at h; dsimp only at h
  split at h
  · rw [← nat_Gcd.l1_eq] at h
    exact loop_ok (evCode_ok (nat_Gcd.env N) Try_mixed (nat_Gcd.res_eq N) 396 nat_Gcd.b1 (AllCut.of (l := []) (by kernel_rfl) AllCut.nil)) h
  · cases h
theorem nat_Gcd.spec (N : Nat) (a1 : List Int) (a2 : List Int) (r : List Int) (h : nat_Gcd.f N a1 a2 = some r) : FnSpec Try.prog 68 [.agg [.il .u32 1 a1], .agg [.il .u32 1 a2]] [] (.agg [.il .u32 1 r]) ([]) := by
  rw [← nat_Gcd.f_eq] at h
  refine (evFun_ok (nat_Gcd.env N) Try_mixed Try.func68 (by kernel_rfl : Try.f68.body = some nat_Gcd.body) (by kernel_rfl) (nat_Gcd.res_eq N) (by kernel_rfl) (by kernel_rfl) (Nat.le_of_ble_eq_true (by kernel_rfl)) (AllCut.of (l := [(.loop (inner ((subLoops nat_Gcd.body).getD 0 .skip)))]) (by kernel_rfl) (AllCut.cons (nat_Gcd.k1 N) AllCut.nil)) h).of fun v bs' h1 => ?_
  unfold nat_Gcd.dec at h1; split at h1
  · cases h1; exact ⟨rfl, rfl⟩
  · cases h1
theorem nat_Gcd.ent_ok (N : Nat) : TabOK1 Try.prog 68 (nat_Gcd.ent N) := by
  intro args bs a enc h
  simp only [nat_Gcd.ent] at h
  split at h
  · rename_i hz; have h0 := Option.some.inj h; have h1 := congrArg Prod.fst h0; have h2 := congrArg Prod.snd h0; dsimp only at h1 h2; subst h2; exact FnSpec.of_freeze hz (nat_Gcd.spec N _ _ a h1)
  · cases h
end Go.Proofs.Ytifnooogklfifaa
