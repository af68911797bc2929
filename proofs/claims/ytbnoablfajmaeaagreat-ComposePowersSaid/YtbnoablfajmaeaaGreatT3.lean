-- The seat's functions as the evaluator goes through them: typed models and their laws.
import Derived.Test.YtbnoablfajmaeaaGreatProg
import Derived.Test.YtbnoablfajmaeaaGreatEvF
import Derived.Test.YtbnoablfajmaeaaGreatT2
import Derived.KernelRfl
namespace Go.Proofs.YtbnoablfajmaeaaGreat
open Go.Proofs.YtbnoablfajmaeaaGreat.Ev
set_option linter.unusedVariables false
open Go

noncomputable def ty51 : TI := ⟨.slice 99, 1, 24, [.slice none 0 0]⟩
theorem ty51_ok : TyOK1 Tryz.prog 51 ty51 := tyok_of (by kernel_rfl) (by kernel_rfl) (by kernel_rfl) (by kernel_rfl) (by kernel_rfl) (by kernel_rfl) (by kernel_rfl) (Tryz.underlying51) (by kernel_rfl)
/-! parquet/parquetref01.cut: function 79 -/
noncomputable def parquetref01_cut.l2 {R : Type} (N : Nat) : Nat → Nat → Nat → Int → List Int → (Nat → Nat → Int → List Int → Option R) → Option R
  | 0, _, _, _, _, _ => none
  | n + 1, x4, x5, x6, x7, k0 =>
    bif decide (x6 > 0) then
      bif (decide (0 ≤ (wi64 (x6 - 1)))) && (decide ((wi64 (x6 - 1)) < (x5 : Int))) then
        bif (x7.getD (x4 + ((wi64 (x6 - 1)).toNat)) 0) == 0 then
          parquetref01_cut.l2 N n x4 x5 (wi64 (x6 - 1)) x7 k0
        else
        k0 x4 x5 x6 x7
      else none
    else
    k0 x4 x5 x6 x7
noncomputable def parquetref01_cut.f (N : Nat) (a1 : Nat) (a2 : Nat) (a3 : List Int) : Option (Nat × Nat × List Int) :=
  parquetref01_cut.l2 N N a1 a2 (a2 : Int) a3
    (fun y12 y13 y14 y15 =>
      bif ((decide (0 ≤ y14)) && (decide (y14 ≤ (y13 : Int)))) && (decide ((y13 : Int) ≤ (y13 : Int))) then
        some (y12, y14.toNat, y15)
      else none)
noncomputable def parquetref01_cut.body : Code := (Tryz.f79.body).getD .skip
noncomputable def parquetref01_cut.ty : List (Nat × TI) := [(51, ty51), (99, ty99)]
noncomputable def parquetref01_cut.h2 : Hint := ⟨[(0, .any), (3, .any)], [(0, .any), (3, .any)]⟩
noncomputable def parquetref01_cut.c2 (N : Nat) : Cut := ⟨fun vs H k => match vs, H with
  | [.sl 0 1 x4 x5, .c (.int .i64 x6)], [.ints .u32 x7] => parquetref01_cut.l2 N N x4 x5 x6 x7 (fun x8 x9 x10 x11 => k (.exit 0) ⟨mkT parquetref01_cut.h2.out [.sl 0 1 x8 x9, .c (.int .i64 x10)], [.ints .u32 x11]⟩)
  | _, _ => none⟩
noncomputable def parquetref01_cut.E (N : Nat) : Env := { ty := lookN parquetref01_cut.ty, tab := lookN [], hint := lookN [(2, parquetref01_cut.h2)], cut := lookN [(2, parquetref01_cut.c2 N)], N := N, res := [.tmp 2], rsh := [.any], nb := 1, ntmps := 21, own := false }
noncomputable def parquetref01_cut.b2 : Code := inner ((subLoops parquetref01_cut.body).getD 0 .skip)
set_option maxRecDepth 100000 in
theorem parquetref01_cut.l2_eq {R : Type} (N n : Nat) (x4 : Nat) (x5 : Nat) (x6 : Int) (x7 : List Int) (k : Ex → St → Option R) :
    evLoop 1 parquetref01_cut.h2 (fun s k => evCode (parquetref01_cut.E N) 395 parquetref01_cut.b2 s k) n [.sl 0 1 x4 x5, .c (.int .i64 x6)] [.ints .u32 x7] k = parquetref01_cut.l2 N n x4 x5 x6 x7 (fun x8 x9 x10 x11 => k (.exit 0) ⟨mkT parquetref01_cut.h2.out [.sl 0 1 x8 x9, .c (.int .i64 x10)], [.ints .u32 x11]⟩) := by
  induction n generalizing x4 x5 x6 x7 with
  | zero => kernel_rfl
  | succ n ih =>
    simp only [parquetref01_cut.l2, ← ih]
    kernel_rfl
noncomputable def parquetref01_cut.dec (v : V) (bs : List Blk) : Option (Nat × Nat × List Int) := match v, bs with
  | .sl 0 1 z0 z1, [.ints .u32 z2] => some (z0, z1, z2)
  | _, _ => none
set_option maxRecDepth 100000 in
theorem parquetref01_cut.f_eq (N : Nat) (a1 : Nat) (a2 : Nat) (a3 : List Int) :
    evFun (parquetref01_cut.E N) parquetref01_cut.body [.sl 0 1 a1 a2] [.ints .u32 a3] parquetref01_cut.dec = parquetref01_cut.f N a1 a2 a3 := by kernel_rfl
noncomputable def parquetref01_cut.ent (N : Nat) : Entry := { A := Nat × Nat × List Int, fresh := 0, imm := [false], dec := fun args bs => match asSlL (blkAt bs) [true] args, bs with
  | [.sl 0 1 a1 a2], [.ints .u32 a3] => some (parquetref01_cut.f N a1 a2 a3, fun r => .one (.sl 0 1 r.1 r.2.1) [.ints .u32 r.2.2])
  | _, _ => none }
theorem parquetref01_cut.env (N : Nat) : EnvOK Tryz.prog (parquetref01_cut.E N) := ⟨(TyOK.cons ty51_ok (TyOK.cons ty99_ok TyOK.nil)), TabOK.nil⟩
theorem parquetref01_cut.res_eq (N : Nat) : (parquetref01_cut.E N).res = Tryz.f79.results.toList := by kernel_rfl
theorem parquetref01_cut.k2 (N : Nat) : CutOK Tryz.prog Tryz.f79 (parquetref01_cut.E N) (.loop parquetref01_cut.b2) := by
  intro e hd he hh R vs H k r h
  have e1 : (parquetref01_cut.E N).cut (loopKey parquetref01_cut.b2) = some (parquetref01_cut.c2 N) := by kernel_rfl
  have e2 : (parquetref01_cut.E N).hint (loopKey parquetref01_cut.b2) = some parquetref01_cut.h2 := by kernel_rfl
  rw [e1] at he; rw [e2] at hh; cases he; cases hh
  unfold parquetref01_cut.c2 at h; dsimp only at h
  split at h
  · rw [← parquetref01_cut.l2_eq] at h
    exact loop_ok (evCode_ok (parquetref01_cut.env N) Tryz_mixed (parquetref01_cut.res_eq N) 395 parquetref01_cut.b2 (AllCut.of (l := []) (by kernel_rfl) AllCut.nil)) h
  · cases h
theorem parquetref01_cut.spec (N : Nat) (a1 : Nat) (a2 : Nat) (a3 : List Int) (r : Nat × Nat × List Int) (h : parquetref01_cut.f N a1 a2 a3 = some r) : FnSpec Tryz.prog 79 [.sl 0 1 a1 a2] [.ints .u32 a3] (.sl 0 1 r.1 r.2.1) ([.ints .u32 r.2.2]) := by
  rw [← parquetref01_cut.f_eq] at h
  obtain ⟨v, bs', h1, h2⟩ := evFun_ok (parquetref01_cut.env N) Tryz_mixed Tryz.func79 (by kernel_rfl : Tryz.f79.body = some parquetref01_cut.body) (by kernel_rfl) (parquetref01_cut.res_eq N) (by kernel_rfl) (by kernel_rfl) (Nat.le_of_ble_eq_true (by kernel_rfl)) (AllCut.of (l := [(.loop (inner ((subLoops parquetref01_cut.body).getD 0 .skip)))]) (by kernel_rfl) (AllCut.cons (parquetref01_cut.k2 N) AllCut.nil)) h
  unfold parquetref01_cut.dec at h1; split at h1
  · cases h1; exact h2
  · cases h1
theorem parquetref01_cut.ent_ok (N : Nat) : TabOK1 Tryz.prog 79 (parquetref01_cut.ent N) := by
  intro args bs a enc h
  simp only [parquetref01_cut.ent] at h
  split at h
  · rename_i hz; have h0 := Option.some.inj h; have h1 := congrArg Prod.fst h0; have h2 := congrArg Prod.snd h0; dsimp only at h1 h2; subst h2; exact FnSpec.of_asSl (fl := [true]) (by rw [hz]; exact parquetref01_cut.spec N _ _ _ a h1)
  · cases h
/-! parquet/parquetref01.Of: function 57 -/
noncomputable def parquetref01_Of.l2 {R : Type} (N : Nat) : Nat → Int → List Int → (List Int → Option R) → Option R
  | 0, _, _, _ => none
  | n + 1, x2, x3, k0 =>
    bif decide (x2 > 0) then
      bif roomy (x3.length + 1) 4 then
        parquetref01_Of.l2 N n (wu64 (Int.tdiv x2 65536)) (x3 ++ [wu32 (Int.tmod x2 65536)]) k0
      else none
    else
    k0 x3
noncomputable def parquetref01_Of.f (N : Nat) (a1 : Int) : Option (List Int) :=
  parquetref01_Of.l2 N N a1 []
    (fun y5 =>
      some y5)
noncomputable def parquetref01_Of.body : Code := (Tryz.f57.body).getD .skip
noncomputable def parquetref01_Of.ty : List (Nat × TI) := [(41, ty41), (51, ty51), (99, ty99)]
noncomputable def parquetref01_Of.h2 : Hint := ⟨[(0, .any), (3, .row .u32 1)], [(3, .row .u32 1)]⟩
noncomputable def parquetref01_Of.c2 (N : Nat) : Cut := ⟨fun vs H k => match vs, H with
  | [.c (.int .u64 x2), .sw 0 1], [.ints .u32 x3] => parquetref01_Of.l2 N N x2 x3 (fun x4 => k (.exit 0) ⟨mkT parquetref01_Of.h2.out [.sw 0 1], [.ints .u32 x4]⟩)
  | _, _ => none⟩
noncomputable def parquetref01_Of.E (N : Nat) : Env := { ty := lookN parquetref01_Of.ty, tab := lookN [], hint := lookN [(2, parquetref01_Of.h2)], cut := lookN [(2, parquetref01_Of.c2 N)], N := N, res := [.tmp 2], rsh := [.il .u32 1], nb := 0, ntmps := 15, own := false }
noncomputable def parquetref01_Of.b2 : Code := inner ((subLoops parquetref01_Of.body).getD 0 .skip)
set_option maxRecDepth 100000 in
theorem parquetref01_Of.l2_eq {R : Type} (N n : Nat) (x2 : Int) (x3 : List Int) (k : Ex → St → Option R) :
    evLoop 0 parquetref01_Of.h2 (fun s k => evCode (parquetref01_Of.E N) 395 parquetref01_Of.b2 s k) n [.c (.int .u64 x2), .sw 0 1] [.ints .u32 x3] k = parquetref01_Of.l2 N n x2 x3 (fun x4 => k (.exit 0) ⟨mkT parquetref01_Of.h2.out [.sw 0 1], [.ints .u32 x4]⟩) := by
  induction n generalizing x2 x3 with
  | zero => kernel_rfl
  | succ n ih =>
    simp only [parquetref01_Of.l2, ← ih]
    kernel_rfl
noncomputable def parquetref01_Of.dec (v : V) (bs : List Blk) : Option (List Int) := match v, bs with
  | .il .u32 1 z0, [] => some z0
  | _, _ => none
set_option maxRecDepth 100000 in
theorem parquetref01_Of.f_eq (N : Nat) (a1 : Int) :
    evFun (parquetref01_Of.E N) parquetref01_Of.body [.c (.int .u64 a1)] [] parquetref01_Of.dec = parquetref01_Of.f N a1 := by kernel_rfl
noncomputable def parquetref01_Of.ent (N : Nat) : Entry := { A := List Int, fresh := 0, imm := [true], dec := fun args bs => match freezeL 0 (fun _ => .dead) [.any] args, bs with
  | some [.c (.int .u64 a1)], [] => some (parquetref01_Of.f N a1, fun r => .one (.il .u32 1 r) [])
  | _, _ => none }
theorem parquetref01_Of.env (N : Nat) : EnvOK Tryz.prog (parquetref01_Of.E N) := ⟨(TyOK.cons ty41_ok (TyOK.cons ty51_ok (TyOK.cons ty99_ok TyOK.nil))), TabOK.nil⟩
theorem parquetref01_Of.res_eq (N : Nat) : (parquetref01_Of.E N).res = Tryz.f57.results.toList := by kernel_rfl
theorem parquetref01_Of.k2 (N : Nat) : CutOK Tryz.prog Tryz.f57 (parquetref01_Of.E N) (.loop parquetref01_Of.b2) := by
  intro e hd he hh R vs H k r h
  have e1 : (parquetref01_Of.E N).cut (loopKey parquetref01_Of.b2) = some (parquetref01_Of.c2 N) := by kernel_rfl
  have e2 : (parquetref01_Of.E N).hint (loopKey parquetref01_Of.b2) = some parquetref01_Of.h2 := by kernel_rfl
  rw [e1] at he; rw [e2] at hh; cases he; cases hh
  unfold parquetref01_Of.c2 at h; dsimp only at h
  split at h
  · rw [← parquetref01_Of.l2_eq] at h
    exact loop_ok (evCode_ok (parquetref01_Of.env N) Tryz_mixed (parquetref01_Of.res_eq N) 395 parquetref01_Of.b2 (AllCut.of (l := []) (by kernel_rfl) AllCut.nil)) h
  · cases h
theorem parquetref01_Of.spec (N : Nat) (a1 : Int) (r : List Int) (h : parquetref01_Of.f N a1 = some r) : FnSpec Tryz.prog 57 [.c (.int .u64 a1)] [] (.il .u32 1 r) ([]) := by
  rw [← parquetref01_Of.f_eq] at h
  obtain ⟨v, bs', h1, h2⟩ := evFun_ok (parquetref01_Of.env N) Tryz_mixed Tryz.func57 (by kernel_rfl : Tryz.f57.body = some parquetref01_Of.body) (by kernel_rfl) (parquetref01_Of.res_eq N) (by kernel_rfl) (by kernel_rfl) (Nat.le_of_ble_eq_true (by kernel_rfl)) (AllCut.of (l := [(.loop (inner ((subLoops parquetref01_Of.body).getD 0 .skip)))]) (by kernel_rfl) (AllCut.cons (parquetref01_Of.k2 N) AllCut.nil)) h
  unfold parquetref01_Of.dec at h1; split at h1
  · cases h1; exact h2
  · cases h1
theorem parquetref01_Of.ent_ok (N : Nat) : TabOK1 Tryz.prog 57 (parquetref01_Of.ent N) := by
  intro args bs a enc h
  simp only [parquetref01_Of.ent] at h
  split at h
  · rename_i hz; have h0 := Option.some.inj h; have h1 := congrArg Prod.fst h0; have h2 := congrArg Prod.snd h0; dsimp only at h1 h2; subst h2; exact FnSpec.of_freeze hz (parquetref01_Of.spec N _ a h1)
  · cases h
/-! parquet/parquetref01.Small: function 76 -/
noncomputable def parquetref01_Small.l5 {R : Type} (N : Nat) : Nat → List Int → Int → Int → (Int → Option R) → Option R
  | 0, _, _, _, _ => none
  | n + 1, x2, x3, x4, k0 =>
    bif decide (x4 ≥ 0) then
      bif (decide (0 ≤ x4)) && (decide (x4 < (x2.length : Int))) then
        parquetref01_Small.l5 N n x2 (wu64 ((wu64 (x3 * 65536)) + (wu64 (x2.getD x4.toNat 0)))) (wi64 (x4 - 1)) k0
      else none
    else
    k0 x3
noncomputable def parquetref01_Small.f (N : Nat) (a1 : List Int) : Option (Int × Bool) :=
  bif decide ((a1.length : Int) > 4) then
    some (0, false)
  else
  parquetref01_Small.l5 N N a1 0 (wi64 ((a1.length : Int) - 1))
    (fun y6 =>
      some (y6, true))
noncomputable def parquetref01_Small.body : Code := (Tryz.f76.body).getD .skip
noncomputable def parquetref01_Small.ty : List (Nat × TI) := [(41, ty41), (51, ty51), (99, ty99)]
noncomputable def parquetref01_Small.h5 : Hint := ⟨[(0, .il .u32 1), (4, .any), (5, .any)], [(4, .any)]⟩
noncomputable def parquetref01_Small.c5 (N : Nat) : Cut := ⟨fun vs H k => match vs, H with
  | [.il .u32 1 x2, .c (.int .u64 x3), .c (.int .i64 x4)], [] => parquetref01_Small.l5 N N x2 x3 x4 (fun x5 => k (.exit 0) ⟨mkT parquetref01_Small.h5.out [.c (.int .u64 x5)], []⟩)
  | _, _ => none⟩
noncomputable def parquetref01_Small.E (N : Nat) : Env := { ty := lookN parquetref01_Small.ty, tab := lookN [], hint := lookN [(5, parquetref01_Small.h5)], cut := lookN [(5, parquetref01_Small.c5 N)], N := N, res := [.tmp 2, .tmp 3], rsh := [.any, .any], nb := 0, ntmps := 25, own := false }
noncomputable def parquetref01_Small.b5 : Code := inner ((subLoops parquetref01_Small.body).getD 0 .skip)
set_option maxRecDepth 100000 in
theorem parquetref01_Small.l5_eq {R : Type} (N n : Nat) (x2 : List Int) (x3 : Int) (x4 : Int) (k : Ex → St → Option R) :
    evLoop 0 parquetref01_Small.h5 (fun s k => evCode (parquetref01_Small.E N) 393 parquetref01_Small.b5 s k) n [.il .u32 1 x2, .c (.int .u64 x3), .c (.int .i64 x4)] [] k = parquetref01_Small.l5 N n x2 x3 x4 (fun x5 => k (.exit 0) ⟨mkT parquetref01_Small.h5.out [.c (.int .u64 x5)], []⟩) := by
  induction n generalizing x2 x3 x4 with
  | zero => kernel_rfl
  | succ n ih =>
    simp only [parquetref01_Small.l5, ← ih]
    kernel_rfl
noncomputable def parquetref01_Small.dec (v : V) (bs : List Blk) : Option (Int × Bool) := match v, bs with
  | .tup [.c (.int .u64 z0), .c (.bool z1)], [] => some (z0, z1)
  | _, _ => none
set_option maxRecDepth 100000 in
theorem parquetref01_Small.f_eq (N : Nat) (a1 : List Int) :
    evFun (parquetref01_Small.E N) parquetref01_Small.body [.il .u32 1 a1] [] parquetref01_Small.dec = parquetref01_Small.f N a1 := by kernel_rfl
noncomputable def parquetref01_Small.ent (N : Nat) : Entry := { A := Int × Bool, fresh := 0, imm := [true], dec := fun args bs => match freezeL 0 (fun _ => .dead) [.il .u32 1] args, bs with
  | some [.il .u32 1 a1], [] => some (parquetref01_Small.f N a1, fun r => .one (.tup [.c (.int .u64 r.1), .c (.bool r.2)]) [])
  | _, _ => none }
theorem parquetref01_Small.env (N : Nat) : EnvOK Tryz.prog (parquetref01_Small.E N) := ⟨(TyOK.cons ty41_ok (TyOK.cons ty51_ok (TyOK.cons ty99_ok TyOK.nil))), TabOK.nil⟩
theorem parquetref01_Small.res_eq (N : Nat) : (parquetref01_Small.E N).res = Tryz.f76.results.toList := by kernel_rfl
theorem parquetref01_Small.k5 (N : Nat) : CutOK Tryz.prog Tryz.f76 (parquetref01_Small.E N) (.loop parquetref01_Small.b5) := by
  intro e hd he hh R vs H k r h
  have e1 : (parquetref01_Small.E N).cut (loopKey parquetref01_Small.b5) = some (parquetref01_Small.c5 N) := by kernel_rfl
  have e2 : (parquetref01_Small.E N).hint (loopKey parquetref01_Small.b5) = some parquetref01_Small.h5 := by kernel_rfl
  rw [e1] at he; rw [e2] at hh; cases he; cases hh
  unfold parquetref01_Small.c5 at h; dsimp only at h
  split at h
  · rw [← parquetref01_Small.l5_eq] at h
    exact loop_ok (evCode_ok (parquetref01_Small.env N) Tryz_mixed (parquetref01_Small.res_eq N) 393 parquetref01_Small.b5 (AllCut.of (l := []) (by kernel_rfl) AllCut.nil)) h
  · cases h
theorem parquetref01_Small.spec (N : Nat) (a1 : List Int) (r : Int × Bool) (h : parquetref01_Small.f N a1 = some r) : FnSpec Tryz.prog 76 [.il .u32 1 a1] [] (.tup [.c (.int .u64 r.1), .c (.bool r.2)]) ([]) := by
  rw [← parquetref01_Small.f_eq] at h
  obtain ⟨v, bs', h1, h2⟩ := evFun_ok (parquetref01_Small.env N) Tryz_mixed Tryz.func76 (by kernel_rfl : Tryz.f76.body = some parquetref01_Small.body) (by kernel_rfl) (parquetref01_Small.res_eq N) (by kernel_rfl) (by kernel_rfl) (Nat.le_of_ble_eq_true (by kernel_rfl)) (AllCut.of (l := [(.loop (inner ((subLoops parquetref01_Small.body).getD 0 .skip)))]) (by kernel_rfl) (AllCut.cons (parquetref01_Small.k5 N) AllCut.nil)) h
  unfold parquetref01_Small.dec at h1; split at h1
  · cases h1; exact h2
  · cases h1
theorem parquetref01_Small.ent_ok (N : Nat) : TabOK1 Tryz.prog 76 (parquetref01_Small.ent N) := by
  intro args bs a enc h
  simp only [parquetref01_Small.ent] at h
  split at h
  · rename_i hz; have h0 := Option.some.inj h; have h1 := congrArg Prod.fst h0; have h2 := congrArg Prod.snd h0; dsimp only at h1 h2; subst h2; exact FnSpec.of_freeze hz (parquetref01_Small.spec N _ a h1)
  · cases h
/-! parquet/parquetref01.Bits: function 78 -/
noncomputable def parquetref01_Bits.l5 {R : Type} (N : Nat) : Nat → Int → Int → (Int → Option R) → Option R
  | 0, _, _, _ => none
  | n + 1, x2, x3, k0 =>
    bif decide (x3 > 0) then
      parquetref01_Bits.l5 N n (wi64 (x2 + 1)) (wu32 (Int.tdiv x3 2)) k0
    else
    k0 x2
noncomputable def parquetref01_Bits.f (N : Nat) (a1 : List Int) : Option (Int) :=
  bif (a1.length : Int) == 0 then
    some 0
  else
  bif (decide (0 ≤ (wi64 ((a1.length : Int) - 1)))) && (decide ((wi64 ((a1.length : Int) - 1)) < (a1.length : Int))) then
    parquetref01_Bits.l5 N N (wi64 (16 * (wi64 ((a1.length : Int) - 1)))) (a1.getD ((wi64 ((a1.length : Int) - 1)).toNat) 0)
      (fun y5 =>
        some y5)
  else none
noncomputable def parquetref01_Bits.body : Code := (Tryz.f78.body).getD .skip
noncomputable def parquetref01_Bits.ty : List (Nat × TI) := [(51, ty51), (99, ty99)]
noncomputable def parquetref01_Bits.h5 : Hint := ⟨[(3, .any), (4, .any)], [(3, .any)]⟩
noncomputable def parquetref01_Bits.c5 (N : Nat) : Cut := ⟨fun vs H k => match vs, H with
  | [.c (.int .i64 x2), .c (.int .u32 x3)], [] => parquetref01_Bits.l5 N N x2 x3 (fun x4 => k (.exit 0) ⟨mkT parquetref01_Bits.h5.out [.c (.int .i64 x4)], []⟩)
  | _, _ => none⟩
noncomputable def parquetref01_Bits.E (N : Nat) : Env := { ty := lookN parquetref01_Bits.ty, tab := lookN [], hint := lookN [(5, parquetref01_Bits.h5)], cut := lookN [(5, parquetref01_Bits.c5 N)], N := N, res := [.tmp 2], rsh := [.any], nb := 0, ntmps := 25, own := false }
noncomputable def parquetref01_Bits.b5 : Code := inner ((subLoops parquetref01_Bits.body).getD 0 .skip)
set_option maxRecDepth 100000 in
theorem parquetref01_Bits.l5_eq {R : Type} (N n : Nat) (x2 : Int) (x3 : Int) (k : Ex → St → Option R) :
    evLoop 0 parquetref01_Bits.h5 (fun s k => evCode (parquetref01_Bits.E N) 393 parquetref01_Bits.b5 s k) n [.c (.int .i64 x2), .c (.int .u32 x3)] [] k = parquetref01_Bits.l5 N n x2 x3 (fun x4 => k (.exit 0) ⟨mkT parquetref01_Bits.h5.out [.c (.int .i64 x4)], []⟩) := by
  induction n generalizing x2 x3 with
  | zero => kernel_rfl
  | succ n ih =>
    simp only [parquetref01_Bits.l5, ← ih]
    kernel_rfl
noncomputable def parquetref01_Bits.dec (v : V) (bs : List Blk) : Option (Int) := match v, bs with
  | .c (.int .i64 z0), [] => some z0
  | _, _ => none
set_option maxRecDepth 100000 in
theorem parquetref01_Bits.f_eq (N : Nat) (a1 : List Int) :
    evFun (parquetref01_Bits.E N) parquetref01_Bits.body [.il .u32 1 a1] [] parquetref01_Bits.dec = parquetref01_Bits.f N a1 := by kernel_rfl
noncomputable def parquetref01_Bits.ent (N : Nat) : Entry := { A := Int, fresh := 0, imm := [true], dec := fun args bs => match freezeL 0 (fun _ => .dead) [.il .u32 1] args, bs with
  | some [.il .u32 1 a1], [] => some (parquetref01_Bits.f N a1, fun r => .one (.c (.int .i64 r)) [])
  | _, _ => none }
theorem parquetref01_Bits.env (N : Nat) : EnvOK Tryz.prog (parquetref01_Bits.E N) := ⟨(TyOK.cons ty51_ok (TyOK.cons ty99_ok TyOK.nil)), TabOK.nil⟩
theorem parquetref01_Bits.res_eq (N : Nat) : (parquetref01_Bits.E N).res = Tryz.f78.results.toList := by kernel_rfl
theorem parquetref01_Bits.k5 (N : Nat) : CutOK Tryz.prog Tryz.f78 (parquetref01_Bits.E N) (.loop parquetref01_Bits.b5) := by
  intro e hd he hh R vs H k r h
  have e1 : (parquetref01_Bits.E N).cut (loopKey parquetref01_Bits.b5) = some (parquetref01_Bits.c5 N) := by kernel_rfl
  have e2 : (parquetref01_Bits.E N).hint (loopKey parquetref01_Bits.b5) = some parquetref01_Bits.h5 := by kernel_rfl
  rw [e1] at he; rw [e2] at hh; cases he; cases hh
  unfold parquetref01_Bits.c5 at h; dsimp only at h
  split at h
  · rw [← parquetref01_Bits.l5_eq] at h
    exact loop_ok (evCode_ok (parquetref01_Bits.env N) Tryz_mixed (parquetref01_Bits.res_eq N) 393 parquetref01_Bits.b5 (AllCut.of (l := []) (by kernel_rfl) AllCut.nil)) h
  · cases h
theorem parquetref01_Bits.spec (N : Nat) (a1 : List Int) (r : Int) (h : parquetref01_Bits.f N a1 = some r) : FnSpec Tryz.prog 78 [.il .u32 1 a1] [] (.c (.int .i64 r)) ([]) := by
  rw [← parquetref01_Bits.f_eq] at h
  obtain ⟨v, bs', h1, h2⟩ := evFun_ok (parquetref01_Bits.env N) Tryz_mixed Tryz.func78 (by kernel_rfl : Tryz.f78.body = some parquetref01_Bits.body) (by kernel_rfl) (parquetref01_Bits.res_eq N) (by kernel_rfl) (by kernel_rfl) (Nat.le_of_ble_eq_true (by kernel_rfl)) (AllCut.of (l := [(.loop (inner ((subLoops parquetref01_Bits.body).getD 0 .skip)))]) (by kernel_rfl) (AllCut.cons (parquetref01_Bits.k5 N) AllCut.nil)) h
  unfold parquetref01_Bits.dec at h1; split at h1
  · cases h1; exact h2
  · cases h1
theorem parquetref01_Bits.ent_ok (N : Nat) : TabOK1 Tryz.prog 78 (parquetref01_Bits.ent N) := by
  intro args bs a enc h
  simp only [parquetref01_Bits.ent] at h
  split at h
  · rename_i hz; have h0 := Option.some.inj h; have h1 := congrArg Prod.fst h0; have h2 := congrArg Prod.snd h0; dsimp only at h1 h2; subst h2; exact FnSpec.of_freeze hz (parquetref01_Bits.spec N _ a h1)
  · cases h
/-! parquet/parquetref01.Cmp: function 55 -/
noncomputable def parquetref01_Cmp.l6 {R : Type} (N : Nat) : Nat → List Int → List Int → Int → (Unit → Option R) → (Int → Option R) → Option R
  | 0, _, _, _, _, _ => none
  | n + 1, x3, x4, x5, k0, kr =>
    bif decide (x5 ≥ 0) then
      bif (decide (0 ≤ x5)) && (decide (x5 < (x3.length : Int))) then
        bif (decide (0 ≤ x5)) && (decide (x5 < (x4.length : Int))) then
          bif decide ((x3.getD x5.toNat 0) < (x4.getD x5.toNat 0)) then
            kr (-1)
          else
          bif (decide (0 ≤ x5)) && (decide (x5 < (x3.length : Int))) then
            bif (decide (0 ≤ x5)) && (decide (x5 < (x4.length : Int))) then
              bif decide ((x3.getD x5.toNat 0) > (x4.getD x5.toNat 0)) then
                kr 1
              else
              parquetref01_Cmp.l6 N n x3 x4 (wi64 (x5 - 1)) k0 kr
            else none
          else none
        else none
      else none
    else
    k0 ()
noncomputable def parquetref01_Cmp.f (N : Nat) (a1 : List Int) (a2 : List Int) : Option (Int) :=
  bif (a1.length : Int) != (a2.length : Int) then
    bif decide ((a1.length : Int) < (a2.length : Int)) then
      some (-1)
    else
    some 1
  else
  parquetref01_Cmp.l6 N N a1 a2 (wi64 ((a1.length : Int) - 1))
    (fun (_ : Unit) =>
      some 0)
    (fun y7 =>
      some y7)
noncomputable def parquetref01_Cmp.body : Code := (Tryz.f55.body).getD .skip
noncomputable def parquetref01_Cmp.ty : List (Nat × TI) := [(51, ty51), (99, ty99)]
noncomputable def parquetref01_Cmp.h6 : Hint := ⟨[(0, .il .u32 1), (1, .il .u32 1), (5, .any)], []⟩
noncomputable def parquetref01_Cmp.c6 (N : Nat) : Cut := ⟨fun vs H k => match vs, H with
  | [.il .u32 1 x3, .il .u32 1 x4, .c (.int .i64 x5)], [] => parquetref01_Cmp.l6 N N x3 x4 x5 (fun (_ : Unit) => k (.exit 0) ⟨mkT parquetref01_Cmp.h6.out [], []⟩) (fun x6 => k (.ret (.c (.int .i64 x6)) []) .nil)
  | _, _ => none⟩
noncomputable def parquetref01_Cmp.E (N : Nat) : Env := { ty := lookN parquetref01_Cmp.ty, tab := lookN [], hint := lookN [(6, parquetref01_Cmp.h6)], cut := lookN [(6, parquetref01_Cmp.c6 N)], N := N, res := [.tmp 4], rsh := [.any], nb := 0, ntmps := 41, own := false }
noncomputable def parquetref01_Cmp.b6 : Code := inner ((subLoops parquetref01_Cmp.body).getD 0 .skip)
set_option maxRecDepth 100000 in
theorem parquetref01_Cmp.l6_eq {R : Type} (N n : Nat) (x3 : List Int) (x4 : List Int) (x5 : Int) (k : Ex → St → Option R) :
    evLoop 0 parquetref01_Cmp.h6 (fun s k => evCode (parquetref01_Cmp.E N) 394 parquetref01_Cmp.b6 s k) n [.il .u32 1 x3, .il .u32 1 x4, .c (.int .i64 x5)] [] k = parquetref01_Cmp.l6 N n x3 x4 x5 (fun (_ : Unit) => k (.exit 0) ⟨mkT parquetref01_Cmp.h6.out [], []⟩) (fun x6 => k (.ret (.c (.int .i64 x6)) []) .nil) := by
  induction n generalizing x3 x4 x5 with
  | zero => kernel_rfl
  | succ n ih =>
    simp only [parquetref01_Cmp.l6, ← ih]
    kernel_rfl
noncomputable def parquetref01_Cmp.dec (v : V) (bs : List Blk) : Option (Int) := match v, bs with
  | .c (.int .i64 z0), [] => some z0
  | _, _ => none
set_option maxRecDepth 100000 in
theorem parquetref01_Cmp.f_eq (N : Nat) (a1 : List Int) (a2 : List Int) :
    evFun (parquetref01_Cmp.E N) parquetref01_Cmp.body [.il .u32 1 a1, .il .u32 1 a2] [] parquetref01_Cmp.dec = parquetref01_Cmp.f N a1 a2 := by kernel_rfl
noncomputable def parquetref01_Cmp.ent (N : Nat) : Entry := { A := Int, fresh := 0, imm := [true, true], dec := fun args bs => match freezeL 0 (fun _ => .dead) [.il .u32 1, .il .u32 1] args, bs with
  | some [.il .u32 1 a1, .il .u32 1 a2], [] => some (parquetref01_Cmp.f N a1 a2, fun r => .one (.c (.int .i64 r)) [])
  | _, _ => none }
theorem parquetref01_Cmp.env (N : Nat) : EnvOK Tryz.prog (parquetref01_Cmp.E N) := ⟨(TyOK.cons ty51_ok (TyOK.cons ty99_ok TyOK.nil)), TabOK.nil⟩
theorem parquetref01_Cmp.res_eq (N : Nat) : (parquetref01_Cmp.E N).res = Tryz.f55.results.toList := by kernel_rfl
theorem parquetref01_Cmp.k6 (N : Nat) : CutOK Tryz.prog Tryz.f55 (parquetref01_Cmp.E N) (.loop parquetref01_Cmp.b6) := by
  intro e hd he hh R vs H k r h
  have e1 : (parquetref01_Cmp.E N).cut (loopKey parquetref01_Cmp.b6) = some (parquetref01_Cmp.c6 N) := by kernel_rfl
  have e2 : (parquetref01_Cmp.E N).hint (loopKey parquetref01_Cmp.b6) = some parquetref01_Cmp.h6 := by kernel_rfl
  rw [e1] at he; rw [e2] at hh; cases he; cases hh
  unfold parquetref01_Cmp.c6 at h; dsimp only at h
  split at h
  · rw [← parquetref01_Cmp.l6_eq] at h
    exact loop_ok (evCode_ok (parquetref01_Cmp.env N) Tryz_mixed (parquetref01_Cmp.res_eq N) 394 parquetref01_Cmp.b6 (AllCut.of (l := []) (by kernel_rfl) AllCut.nil)) h
  · cases h
theorem parquetref01_Cmp.spec (N : Nat) (a1 : List Int) (a2 : List Int) (r : Int) (h : parquetref01_Cmp.f N a1 a2 = some r) : FnSpec Tryz.prog 55 [.il .u32 1 a1, .il .u32 1 a2] [] (.c (.int .i64 r)) ([]) := by
  rw [← parquetref01_Cmp.f_eq] at h
  obtain ⟨v, bs', h1, h2⟩ := evFun_ok (parquetref01_Cmp.env N) Tryz_mixed Tryz.func55 (by kernel_rfl : Tryz.f55.body = some parquetref01_Cmp.body) (by kernel_rfl) (parquetref01_Cmp.res_eq N) (by kernel_rfl) (by kernel_rfl) (Nat.le_of_ble_eq_true (by kernel_rfl)) (AllCut.of (l := [(.loop (inner ((subLoops parquetref01_Cmp.body).getD 0 .skip)))]) (by kernel_rfl) (AllCut.cons (parquetref01_Cmp.k6 N) AllCut.nil)) h
  unfold parquetref01_Cmp.dec at h1; split at h1
  · cases h1; exact h2
  · cases h1
theorem parquetref01_Cmp.ent_ok (N : Nat) : TabOK1 Tryz.prog 55 (parquetref01_Cmp.ent N) := by
  intro args bs a enc h
  simp only [parquetref01_Cmp.ent] at h
  split at h
  · rename_i hz; have h0 := Option.some.inj h; have h1 := congrArg Prod.fst h0; have h2 := congrArg Prod.snd h0; dsimp only at h1 h2; subst h2; exact FnSpec.of_freeze hz (parquetref01_Cmp.spec N _ _ a h1)
  · cases h
/-! parquet/parquetref01.Add: function 54 -/
noncomputable def parquetref01_Add.l4 {R : Type} (N : Nat) : Nat → List Int → List Int → Int → Int → List Int → (List Int → Option R) → Option R
  | 0, _, _, _, _, _, _ => none
  | n + 1, x3, x4, x5, x6, x7, k0 =>
    bif decide (x6 < (x3.length : Int)) then
      bif decide (x6 < (x3.length : Int)) then
        bif (decide (0 ≤ x6)) && (decide (x6 < (x3.length : Int))) then
          bif decide (x6 < (x4.length : Int)) then
            bif (decide (0 ≤ x6)) && (decide (x6 < (x4.length : Int))) then
              bif roomy (x7.length + 1) 4 then
                parquetref01_Add.l4 N n x3 x4 (wu32 (Int.tdiv (wu32 ((wu32 (x5 + (x3.getD x6.toNat 0))) + (x4.getD x6.toNat 0))) 65536)) (wi64 (x6 + 1)) (x7 ++ [Int.tmod (wu32 ((wu32 (x5 + (x3.getD x6.toNat 0))) + (x4.getD x6.toNat 0))) 65536]) k0
              else none
            else none
          else
          bif roomy (x7.length + 1) 4 then
            parquetref01_Add.l4 N n x3 x4 (wu32 (Int.tdiv (wu32 (x5 + (x3.getD x6.toNat 0))) 65536)) (wi64 (x6 + 1)) (x7 ++ [Int.tmod (wu32 (x5 + (x3.getD x6.toNat 0))) 65536]) k0
          else none
        else none
      else
      bif decide (x6 < (x4.length : Int)) then
        bif (decide (0 ≤ x6)) && (decide (x6 < (x4.length : Int))) then
          bif roomy (x7.length + 1) 4 then
            parquetref01_Add.l4 N n x3 x4 (wu32 (Int.tdiv (wu32 (x5 + (x4.getD x6.toNat 0))) 65536)) (wi64 (x6 + 1)) (x7 ++ [Int.tmod (wu32 (x5 + (x4.getD x6.toNat 0))) 65536]) k0
          else none
        else none
      else
      bif roomy (x7.length + 1) 4 then
        parquetref01_Add.l4 N n x3 x4 (wu32 (Int.tdiv x5 65536)) (wi64 (x6 + 1)) (x7 ++ [Int.tmod x5 65536]) k0
      else none
    else
    bif decide (x6 < (x4.length : Int)) then
      bif decide (x6 < (x3.length : Int)) then
        bif (decide (0 ≤ x6)) && (decide (x6 < (x3.length : Int))) then
          bif decide (x6 < (x4.length : Int)) then
            bif (decide (0 ≤ x6)) && (decide (x6 < (x4.length : Int))) then
              bif roomy (x7.length + 1) 4 then
                parquetref01_Add.l4 N n x3 x4 (wu32 (Int.tdiv (wu32 ((wu32 (x5 + (x3.getD x6.toNat 0))) + (x4.getD x6.toNat 0))) 65536)) (wi64 (x6 + 1)) (x7 ++ [Int.tmod (wu32 ((wu32 (x5 + (x3.getD x6.toNat 0))) + (x4.getD x6.toNat 0))) 65536]) k0
              else none
            else none
          else
          bif roomy (x7.length + 1) 4 then
            parquetref01_Add.l4 N n x3 x4 (wu32 (Int.tdiv (wu32 (x5 + (x3.getD x6.toNat 0))) 65536)) (wi64 (x6 + 1)) (x7 ++ [Int.tmod (wu32 (x5 + (x3.getD x6.toNat 0))) 65536]) k0
          else none
        else none
      else
      bif decide (x6 < (x4.length : Int)) then
        bif (decide (0 ≤ x6)) && (decide (x6 < (x4.length : Int))) then
          bif roomy (x7.length + 1) 4 then
            parquetref01_Add.l4 N n x3 x4 (wu32 (Int.tdiv (wu32 (x5 + (x4.getD x6.toNat 0))) 65536)) (wi64 (x6 + 1)) (x7 ++ [Int.tmod (wu32 (x5 + (x4.getD x6.toNat 0))) 65536]) k0
          else none
        else none
      else
      bif roomy (x7.length + 1) 4 then
        parquetref01_Add.l4 N n x3 x4 (wu32 (Int.tdiv x5 65536)) (wi64 (x6 + 1)) (x7 ++ [Int.tmod x5 65536]) k0
      else none
    else
    bif decide (x5 > 0) then
      bif decide (x6 < (x3.length : Int)) then
        bif (decide (0 ≤ x6)) && (decide (x6 < (x3.length : Int))) then
          bif decide (x6 < (x4.length : Int)) then
            bif (decide (0 ≤ x6)) && (decide (x6 < (x4.length : Int))) then
              bif roomy (x7.length + 1) 4 then
                parquetref01_Add.l4 N n x3 x4 (wu32 (Int.tdiv (wu32 ((wu32 (x5 + (x3.getD x6.toNat 0))) + (x4.getD x6.toNat 0))) 65536)) (wi64 (x6 + 1)) (x7 ++ [Int.tmod (wu32 ((wu32 (x5 + (x3.getD x6.toNat 0))) + (x4.getD x6.toNat 0))) 65536]) k0
              else none
            else none
          else
          bif roomy (x7.length + 1) 4 then
            parquetref01_Add.l4 N n x3 x4 (wu32 (Int.tdiv (wu32 (x5 + (x3.getD x6.toNat 0))) 65536)) (wi64 (x6 + 1)) (x7 ++ [Int.tmod (wu32 (x5 + (x3.getD x6.toNat 0))) 65536]) k0
          else none
        else none
      else
      bif decide (x6 < (x4.length : Int)) then
        bif (decide (0 ≤ x6)) && (decide (x6 < (x4.length : Int))) then
          bif roomy (x7.length + 1) 4 then
            parquetref01_Add.l4 N n x3 x4 (wu32 (Int.tdiv (wu32 (x5 + (x4.getD x6.toNat 0))) 65536)) (wi64 (x6 + 1)) (x7 ++ [Int.tmod (wu32 (x5 + (x4.getD x6.toNat 0))) 65536]) k0
          else none
        else none
      else
      bif roomy (x7.length + 1) 4 then
        parquetref01_Add.l4 N n x3 x4 (wu32 (Int.tdiv x5 65536)) (wi64 (x6 + 1)) (x7 ++ [Int.tmod x5 65536]) k0
      else none
    else
    k0 x7
noncomputable def parquetref01_Add.f (N : Nat) (a1 : List Int) (a2 : List Int) : Option (List Int) :=
  parquetref01_Add.l4 N N a1 a2 0 0 []
    (fun y9 =>
      (parquetref01_cut.f N 0 y9.length y9).bind fun r10 =>
      some ((r10.2.2.drop r10.1).take r10.2.1))
noncomputable def parquetref01_Add.body : Code := (Tryz.f54.body).getD .skip
noncomputable def parquetref01_Add.ty : List (Nat × TI) := [(51, ty51), (99, ty99)]
noncomputable def parquetref01_Add.h4 : Hint := ⟨[(0, .il .u32 1), (1, .il .u32 1), (5, .row .u32 1), (6, .any), (7, .any)], [(5, .row .u32 1)]⟩
noncomputable def parquetref01_Add.c4 (N : Nat) : Cut := ⟨fun vs H k => match vs, H with
  | [.il .u32 1 x3, .il .u32 1 x4, .sw 0 1, .c (.int .u32 x5), .c (.int .i64 x6)], [.ints .u32 x7] => parquetref01_Add.l4 N N x3 x4 x5 x6 x7 (fun x8 => k (.exit 0) ⟨mkT parquetref01_Add.h4.out [.sw 0 1], [.ints .u32 x8]⟩)
  | _, _ => none⟩
noncomputable def parquetref01_Add.E (N : Nat) : Env := { ty := lookN parquetref01_Add.ty, tab := lookN [(79, parquetref01_cut.ent N)], hint := lookN [(4, parquetref01_Add.h4)], cut := lookN [(4, parquetref01_Add.c4 N)], N := N, res := [.tmp 4], rsh := [.il .u32 1], nb := 0, ntmps := 55, own := false }
noncomputable def parquetref01_Add.b4 : Code := inner ((subLoops parquetref01_Add.body).getD 0 .skip)
set_option maxRecDepth 100000 in
theorem parquetref01_Add.l4_eq {R : Type} (N n : Nat) (x3 : List Int) (x4 : List Int) (x5 : Int) (x6 : Int) (x7 : List Int) (k : Ex → St → Option R) :
    evLoop 0 parquetref01_Add.h4 (fun s k => evCode (parquetref01_Add.E N) 393 parquetref01_Add.b4 s k) n [.il .u32 1 x3, .il .u32 1 x4, .sw 0 1, .c (.int .u32 x5), .c (.int .i64 x6)] [.ints .u32 x7] k = parquetref01_Add.l4 N n x3 x4 x5 x6 x7 (fun x8 => k (.exit 0) ⟨mkT parquetref01_Add.h4.out [.sw 0 1], [.ints .u32 x8]⟩) := by
  induction n generalizing x3 x4 x5 x6 x7 with
  | zero => kernel_rfl
  | succ n ih =>
    simp only [parquetref01_Add.l4, ← ih]
    kernel_rfl
noncomputable def parquetref01_Add.dec (v : V) (bs : List Blk) : Option (List Int) := match v, bs with
  | .il .u32 1 z0, [] => some z0
  | _, _ => none
set_option maxRecDepth 100000 in
theorem parquetref01_Add.f_eq (N : Nat) (a1 : List Int) (a2 : List Int) :
    evFun (parquetref01_Add.E N) parquetref01_Add.body [.il .u32 1 a1, .il .u32 1 a2] [] parquetref01_Add.dec = parquetref01_Add.f N a1 a2 := by kernel_rfl
noncomputable def parquetref01_Add.ent (N : Nat) : Entry := { A := List Int, fresh := 0, imm := [true, true], dec := fun args bs => match freezeL 0 (fun _ => .dead) [.il .u32 1, .il .u32 1] args, bs with
  | some [.il .u32 1 a1, .il .u32 1 a2], [] => some (parquetref01_Add.f N a1 a2, fun r => .one (.il .u32 1 r) [])
  | _, _ => none }
theorem parquetref01_Add.env (N : Nat) : EnvOK Tryz.prog (parquetref01_Add.E N) := ⟨(TyOK.cons ty51_ok (TyOK.cons ty99_ok TyOK.nil)), (TabOK.cons (parquetref01_cut.ent_ok N) TabOK.nil)⟩
theorem parquetref01_Add.res_eq (N : Nat) : (parquetref01_Add.E N).res = Tryz.f54.results.toList := by kernel_rfl
theorem parquetref01_Add.k4 (N : Nat) : CutOK Tryz.prog Tryz.f54 (parquetref01_Add.E N) (.loop parquetref01_Add.b4) := by
  intro e hd he hh R vs H k r h
  have e1 : (parquetref01_Add.E N).cut (loopKey parquetref01_Add.b4) = some (parquetref01_Add.c4 N) := by kernel_rfl
  have e2 : (parquetref01_Add.E N).hint (loopKey parquetref01_Add.b4) = some parquetref01_Add.h4 := by kernel_rfl
  rw [e1] at he; rw [e2] at hh; cases he; cases hh
  unfold parquetref01_Add.c4 at h; dsimp only at h
  split at h
  · rw [← parquetref01_Add.l4_eq] at h
    exact loop_ok (evCode_ok (parquetref01_Add.env N) Tryz_mixed (parquetref01_Add.res_eq N) 393 parquetref01_Add.b4 (AllCut.of (l := []) (by kernel_rfl) AllCut.nil)) h
  · cases h
theorem parquetref01_Add.spec (N : Nat) (a1 : List Int) (a2 : List Int) (r : List Int) (h : parquetref01_Add.f N a1 a2 = some r) : FnSpec Tryz.prog 54 [.il .u32 1 a1, .il .u32 1 a2] [] (.il .u32 1 r) ([]) := by
  rw [← parquetref01_Add.f_eq] at h
  obtain ⟨v, bs', h1, h2⟩ := evFun_ok (parquetref01_Add.env N) Tryz_mixed Tryz.func54 (by kernel_rfl : Tryz.f54.body = some parquetref01_Add.body) (by kernel_rfl) (parquetref01_Add.res_eq N) (by kernel_rfl) (by kernel_rfl) (Nat.le_of_ble_eq_true (by kernel_rfl)) (AllCut.of (l := [(.loop (inner ((subLoops parquetref01_Add.body).getD 0 .skip)))]) (by kernel_rfl) (AllCut.cons (parquetref01_Add.k4 N) AllCut.nil)) h
  unfold parquetref01_Add.dec at h1; split at h1
  · cases h1; exact h2
  · cases h1
theorem parquetref01_Add.ent_ok (N : Nat) : TabOK1 Tryz.prog 54 (parquetref01_Add.ent N) := by
  intro args bs a enc h
  simp only [parquetref01_Add.ent] at h
  split at h
  · rename_i hz; have h0 := Option.some.inj h; have h1 := congrArg Prod.fst h0; have h2 := congrArg Prod.snd h0; dsimp only at h1 h2; subst h2; exact FnSpec.of_freeze hz (parquetref01_Add.spec N _ _ a h1)
  · cases h
/-! parquet/parquetref01.Sub: function 56 -/
noncomputable def parquetref01_Sub.l4 {R : Type} (N : Nat) : Nat → List Int → List Int → Int → Int → List Int → (List Int → Option R) → Option R
  | 0, _, _, _, _, _, _ => none
  | n + 1, x3, x4, x5, x6, x7, k0 =>
    bif decide (x6 < (x3.length : Int)) then
      bif (decide (0 ≤ x6)) && (decide (x6 < (x3.length : Int))) then
        bif decide (x6 < (x4.length : Int)) then
          bif (decide (0 ≤ x6)) && (decide (x6 < (x4.length : Int))) then
            bif roomy (x7.length + 1) 4 then
              parquetref01_Sub.l4 N n x3 x4 (wu32 (1 - (wu32 (Int.tdiv (wu32 ((wu32 ((wu32 ((x3.getD x6.toNat 0) + 65536)) - x5)) - (x4.getD x6.toNat 0))) 65536)))) (wi64 (x6 + 1)) (x7 ++ [Int.tmod (wu32 ((wu32 ((wu32 ((x3.getD x6.toNat 0) + 65536)) - x5)) - (x4.getD x6.toNat 0))) 65536]) k0
            else none
          else none
        else
        bif roomy (x7.length + 1) 4 then
          parquetref01_Sub.l4 N n x3 x4 (wu32 (1 - (wu32 (Int.tdiv (wu32 ((wu32 ((x3.getD x6.toNat 0) + 65536)) - x5)) 65536)))) (wi64 (x6 + 1)) (x7 ++ [Int.tmod (wu32 ((wu32 ((x3.getD x6.toNat 0) + 65536)) - x5)) 65536]) k0
        else none
      else none
    else
    k0 x7
noncomputable def parquetref01_Sub.f (N : Nat) (a1 : List Int) (a2 : List Int) : Option (List Int) :=
  parquetref01_Sub.l4 N N a1 a2 0 0 []
    (fun y9 =>
      (parquetref01_cut.f N 0 y9.length y9).bind fun r10 =>
      some ((r10.2.2.drop r10.1).take r10.2.1))
noncomputable def parquetref01_Sub.body : Code := (Tryz.f56.body).getD .skip
noncomputable def parquetref01_Sub.ty : List (Nat × TI) := [(51, ty51), (99, ty99)]
noncomputable def parquetref01_Sub.h4 : Hint := ⟨[(0, .il .u32 1), (1, .il .u32 1), (5, .row .u32 1), (6, .any), (7, .any)], [(5, .row .u32 1)]⟩
noncomputable def parquetref01_Sub.c4 (N : Nat) : Cut := ⟨fun vs H k => match vs, H with
  | [.il .u32 1 x3, .il .u32 1 x4, .sw 0 1, .c (.int .u32 x5), .c (.int .i64 x6)], [.ints .u32 x7] => parquetref01_Sub.l4 N N x3 x4 x5 x6 x7 (fun x8 => k (.exit 0) ⟨mkT parquetref01_Sub.h4.out [.sw 0 1], [.ints .u32 x8]⟩)
  | _, _ => none⟩
noncomputable def parquetref01_Sub.E (N : Nat) : Env := { ty := lookN parquetref01_Sub.ty, tab := lookN [(79, parquetref01_cut.ent N)], hint := lookN [(4, parquetref01_Sub.h4)], cut := lookN [(4, parquetref01_Sub.c4 N)], N := N, res := [.tmp 4], rsh := [.il .u32 1], nb := 0, ntmps := 42, own := false }
noncomputable def parquetref01_Sub.b4 : Code := inner ((subLoops parquetref01_Sub.body).getD 0 .skip)
set_option maxRecDepth 100000 in
theorem parquetref01_Sub.l4_eq {R : Type} (N n : Nat) (x3 : List Int) (x4 : List Int) (x5 : Int) (x6 : Int) (x7 : List Int) (k : Ex → St → Option R) :
    evLoop 0 parquetref01_Sub.h4 (fun s k => evCode (parquetref01_Sub.E N) 393 parquetref01_Sub.b4 s k) n [.il .u32 1 x3, .il .u32 1 x4, .sw 0 1, .c (.int .u32 x5), .c (.int .i64 x6)] [.ints .u32 x7] k = parquetref01_Sub.l4 N n x3 x4 x5 x6 x7 (fun x8 => k (.exit 0) ⟨mkT parquetref01_Sub.h4.out [.sw 0 1], [.ints .u32 x8]⟩) := by
  induction n generalizing x3 x4 x5 x6 x7 with
  | zero => kernel_rfl
  | succ n ih =>
    simp only [parquetref01_Sub.l4, ← ih]
    kernel_rfl
noncomputable def parquetref01_Sub.dec (v : V) (bs : List Blk) : Option (List Int) := match v, bs with
  | .il .u32 1 z0, [] => some z0
  | _, _ => none
set_option maxRecDepth 100000 in
theorem parquetref01_Sub.f_eq (N : Nat) (a1 : List Int) (a2 : List Int) :
    evFun (parquetref01_Sub.E N) parquetref01_Sub.body [.il .u32 1 a1, .il .u32 1 a2] [] parquetref01_Sub.dec = parquetref01_Sub.f N a1 a2 := by kernel_rfl
noncomputable def parquetref01_Sub.ent (N : Nat) : Entry := { A := List Int, fresh := 0, imm := [true, true], dec := fun args bs => match freezeL 0 (fun _ => .dead) [.il .u32 1, .il .u32 1] args, bs with
  | some [.il .u32 1 a1, .il .u32 1 a2], [] => some (parquetref01_Sub.f N a1 a2, fun r => .one (.il .u32 1 r) [])
  | _, _ => none }
theorem parquetref01_Sub.env (N : Nat) : EnvOK Tryz.prog (parquetref01_Sub.E N) := ⟨(TyOK.cons ty51_ok (TyOK.cons ty99_ok TyOK.nil)), (TabOK.cons (parquetref01_cut.ent_ok N) TabOK.nil)⟩
theorem parquetref01_Sub.res_eq (N : Nat) : (parquetref01_Sub.E N).res = Tryz.f56.results.toList := by kernel_rfl
theorem parquetref01_Sub.k4 (N : Nat) : CutOK Tryz.prog Tryz.f56 (parquetref01_Sub.E N) (.loop parquetref01_Sub.b4) := by
  intro e hd he hh R vs H k r h
  have e1 : (parquetref01_Sub.E N).cut (loopKey parquetref01_Sub.b4) = some (parquetref01_Sub.c4 N) := by kernel_rfl
  have e2 : (parquetref01_Sub.E N).hint (loopKey parquetref01_Sub.b4) = some parquetref01_Sub.h4 := by kernel_rfl
  rw [e1] at he; rw [e2] at hh; cases he; cases hh
  unfold parquetref01_Sub.c4 at h; dsimp only at h
  split at h
  · rw [← parquetref01_Sub.l4_eq] at h
    exact loop_ok (evCode_ok (parquetref01_Sub.env N) Tryz_mixed (parquetref01_Sub.res_eq N) 393 parquetref01_Sub.b4 (AllCut.of (l := []) (by kernel_rfl) AllCut.nil)) h
  · cases h
theorem parquetref01_Sub.spec (N : Nat) (a1 : List Int) (a2 : List Int) (r : List Int) (h : parquetref01_Sub.f N a1 a2 = some r) : FnSpec Tryz.prog 56 [.il .u32 1 a1, .il .u32 1 a2] [] (.il .u32 1 r) ([]) := by
  rw [← parquetref01_Sub.f_eq] at h
  obtain ⟨v, bs', h1, h2⟩ := evFun_ok (parquetref01_Sub.env N) Tryz_mixed Tryz.func56 (by kernel_rfl : Tryz.f56.body = some parquetref01_Sub.body) (by kernel_rfl) (parquetref01_Sub.res_eq N) (by kernel_rfl) (by kernel_rfl) (Nat.le_of_ble_eq_true (by kernel_rfl)) (AllCut.of (l := [(.loop (inner ((subLoops parquetref01_Sub.body).getD 0 .skip)))]) (by kernel_rfl) (AllCut.cons (parquetref01_Sub.k4 N) AllCut.nil)) h
  unfold parquetref01_Sub.dec at h1; split at h1
  · cases h1; exact h2
  · cases h1
theorem parquetref01_Sub.ent_ok (N : Nat) : TabOK1 Tryz.prog 56 (parquetref01_Sub.ent N) := by
  intro args bs a enc h
  simp only [parquetref01_Sub.ent] at h
  split at h
  · rename_i hz; have h0 := Option.some.inj h; have h1 := congrArg Prod.fst h0; have h2 := congrArg Prod.snd h0; dsimp only at h1 h2; subst h2; exact FnSpec.of_freeze hz (parquetref01_Sub.spec N _ _ a h1)
  · cases h
/-! parquet/parquetref01.Mul: function 58 -/
noncomputable def parquetref01_Mul.l7 {R : Type} (N : Nat) : Nat → List Int → List Int → Int → Int → Int → List Int → (List Int → List Int → Int → List Int → Option R) → Option R
  | 0, _, _, _, _, _, _, _ => none
  | n + 1, x7, x8, x9, x10, x11, x12, k2 =>
    bif decide (x11 < (x8.length : Int)) then
      bif (decide (0 ≤ (wi64 (x9 + x11)))) && (decide ((wi64 (x9 + x11)) < (x12.length : Int))) then
        bif decide (x11 < (x8.length : Int)) then
          bif (decide (0 ≤ x9)) && (decide (x9 < (x7.length : Int))) then
            bif (decide (0 ≤ x11)) && (decide (x11 < (x8.length : Int))) then
              bif (decide (0 ≤ (wi64 (x9 + x11)))) && (decide ((wi64 (x9 + x11)) < (x12.length : Int))) then
                parquetref01_Mul.l7 N n x7 x8 x9 (wu64 (Int.tdiv (wu64 ((wu64 ((wu64 (x12.getD ((wi64 (x9 + x11)).toNat) 0)) + x10)) + (wu64 ((wu64 (x7.getD x9.toNat 0)) * (wu64 (x8.getD x11.toNat 0)))))) 65536)) (wi64 (x11 + 1)) (x12.set ((wi64 (x9 + x11)).toNat) (wu32 (Int.tmod (wu64 ((wu64 ((wu64 (x12.getD ((wi64 (x9 + x11)).toNat) 0)) + x10)) + (wu64 ((wu64 (x7.getD x9.toNat 0)) * (wu64 (x8.getD x11.toNat 0)))))) 65536))) k2
              else none
            else none
          else none
        else
        bif (decide (0 ≤ (wi64 (x9 + x11)))) && (decide ((wi64 (x9 + x11)) < (x12.length : Int))) then
          parquetref01_Mul.l7 N n x7 x8 x9 (wu64 (Int.tdiv (wu64 ((wu64 (x12.getD ((wi64 (x9 + x11)).toNat) 0)) + x10)) 65536)) (wi64 (x11 + 1)) (x12.set ((wi64 (x9 + x11)).toNat) (wu32 (Int.tmod (wu64 ((wu64 (x12.getD ((wi64 (x9 + x11)).toNat) 0)) + x10)) 65536))) k2
        else none
      else none
    else
    bif decide (x10 > 0) then
      bif (decide (0 ≤ (wi64 (x9 + x11)))) && (decide ((wi64 (x9 + x11)) < (x12.length : Int))) then
        bif decide (x11 < (x8.length : Int)) then
          bif (decide (0 ≤ x9)) && (decide (x9 < (x7.length : Int))) then
            bif (decide (0 ≤ x11)) && (decide (x11 < (x8.length : Int))) then
              bif (decide (0 ≤ (wi64 (x9 + x11)))) && (decide ((wi64 (x9 + x11)) < (x12.length : Int))) then
                parquetref01_Mul.l7 N n x7 x8 x9 (wu64 (Int.tdiv (wu64 ((wu64 ((wu64 (x12.getD ((wi64 (x9 + x11)).toNat) 0)) + x10)) + (wu64 ((wu64 (x7.getD x9.toNat 0)) * (wu64 (x8.getD x11.toNat 0)))))) 65536)) (wi64 (x11 + 1)) (x12.set ((wi64 (x9 + x11)).toNat) (wu32 (Int.tmod (wu64 ((wu64 ((wu64 (x12.getD ((wi64 (x9 + x11)).toNat) 0)) + x10)) + (wu64 ((wu64 (x7.getD x9.toNat 0)) * (wu64 (x8.getD x11.toNat 0)))))) 65536))) k2
              else none
            else none
          else none
        else
        bif (decide (0 ≤ (wi64 (x9 + x11)))) && (decide ((wi64 (x9 + x11)) < (x12.length : Int))) then
          parquetref01_Mul.l7 N n x7 x8 x9 (wu64 (Int.tdiv (wu64 ((wu64 (x12.getD ((wi64 (x9 + x11)).toNat) 0)) + x10)) 65536)) (wi64 (x11 + 1)) (x12.set ((wi64 (x9 + x11)).toNat) (wu32 (Int.tmod (wu64 ((wu64 (x12.getD ((wi64 (x9 + x11)).toNat) 0)) + x10)) 65536))) k2
        else none
      else none
    else
    k2 x7 x8 x9 x12
noncomputable def parquetref01_Mul.l3 {R : Type} (N : Nat) : Nat → List Int → List Int → Int → List Int → (List Int → Option R) → Option R
  | 0, _, _, _, _, _ => none
  | n + 1, x3, x4, x5, x6, k0 =>
    bif decide (x5 < (x3.length : Int)) then
      parquetref01_Mul.l7 N N x3 x4 x5 0 0 x6
        (fun y17 y18 y19 y20 =>
          parquetref01_Mul.l3 N n y17 y18 (wi64 (y19 + 1)) y20 k0)
    else
    k0 x6
noncomputable def parquetref01_Mul.f (N : Nat) (a1 : List Int) (a2 : List Int) : Option (List Int) :=
  bif decide (wi64 ((a1.length : Int) + (a2.length : Int)) = wi64 ((a1.length : Int) + (a2.length : Int))) && decide (0 ≤ wi64 ((a1.length : Int) + (a2.length : Int))) && decide (wi64 ((a1.length : Int) + (a2.length : Int)) ≤ 9223372036854775807) && roomy ((wi64 ((a1.length : Int) + (a2.length : Int))).toNat) 4 then
    parquetref01_Mul.l3 N N a1 a2 0 (List.replicate ((wi64 ((a1.length : Int) + (a2.length : Int))).toNat) (0 : Int))
      (fun y22 =>
        (parquetref01_cut.f N 0 y22.length y22).bind fun r23 =>
        some ((r23.2.2.drop r23.1).take r23.2.1))
  else none
noncomputable def parquetref01_Mul.body : Code := (Tryz.f58.body).getD .skip
noncomputable def parquetref01_Mul.ty : List (Nat × TI) := [(41, ty41), (51, ty51), (99, ty99)]
noncomputable def parquetref01_Mul.h3 : Hint := ⟨[(0, .il .u32 1), (1, .il .u32 1), (5, .row .u32 1), (6, .any)], [(5, .row .u32 1)]⟩
noncomputable def parquetref01_Mul.h7 : Hint := ⟨[(0, .il .u32 1), (1, .il .u32 1), (5, .row .u32 1), (6, .any), (7, .any), (8, .any)], [(0, .il .u32 1), (1, .il .u32 1), (5, .row .u32 1), (6, .any)]⟩
noncomputable def parquetref01_Mul.c7 (N : Nat) : Cut := ⟨fun vs H k => match vs, H with
  | [.il .u32 1 x7, .il .u32 1 x8, .sw 0 1, .c (.int .i64 x9), .c (.int .u64 x10), .c (.int .i64 x11)], [.ints .u32 x12] => parquetref01_Mul.l7 N N x7 x8 x9 x10 x11 x12 (fun x13 x14 x15 x16 => k (.exit 2) ⟨mkT parquetref01_Mul.h7.out [.il .u32 1 x13, .il .u32 1 x14, .sw 0 1, .c (.int .i64 x15)], [.ints .u32 x16]⟩)
  | _, _ => none⟩
noncomputable def parquetref01_Mul.c3 (N : Nat) : Cut := ⟨fun vs H k => match vs, H with
  | [.il .u32 1 x3, .il .u32 1 x4, .sw 0 1, .c (.int .i64 x5)], [.ints .u32 x6] => parquetref01_Mul.l3 N N x3 x4 x5 x6 (fun x21 => k (.exit 0) ⟨mkT parquetref01_Mul.h3.out [.sw 0 1], [.ints .u32 x21]⟩)
  | _, _ => none⟩
noncomputable def parquetref01_Mul.E (N : Nat) : Env := { ty := lookN parquetref01_Mul.ty, tab := lookN [(79, parquetref01_cut.ent N)], hint := lookN [(3, parquetref01_Mul.h3), (7, parquetref01_Mul.h7)], cut := lookN [(7, parquetref01_Mul.c7 N), (3, parquetref01_Mul.c3 N)], N := N, res := [.tmp 4], rsh := [.il .u32 1], nb := 0, ntmps := 70, own := false }
noncomputable def parquetref01_Mul.b7 : Code := inner ((subLoops parquetref01_Mul.body).getD 1 .skip)
set_option maxRecDepth 100000 in
theorem parquetref01_Mul.l7_eq {R : Type} (N n : Nat) (x7 : List Int) (x8 : List Int) (x9 : Int) (x10 : Int) (x11 : Int) (x12 : List Int) (k : Ex → St → Option R) :
    evLoop 0 parquetref01_Mul.h7 (fun s k => evCode (parquetref01_Mul.E N) 387 parquetref01_Mul.b7 s k) n [.il .u32 1 x7, .il .u32 1 x8, .sw 0 1, .c (.int .i64 x9), .c (.int .u64 x10), .c (.int .i64 x11)] [.ints .u32 x12] k = parquetref01_Mul.l7 N n x7 x8 x9 x10 x11 x12 (fun x13 x14 x15 x16 => k (.exit 2) ⟨mkT parquetref01_Mul.h7.out [.il .u32 1 x13, .il .u32 1 x14, .sw 0 1, .c (.int .i64 x15)], [.ints .u32 x16]⟩) := by
  induction n generalizing x7 x8 x9 x10 x11 x12 with
  | zero => kernel_rfl
  | succ n ih =>
    simp only [parquetref01_Mul.l7, ← ih]
    kernel_rfl
noncomputable def parquetref01_Mul.b3 : Code := inner ((subLoops parquetref01_Mul.body).getD 0 .skip)
set_option maxRecDepth 100000 in
theorem parquetref01_Mul.l3_eq {R : Type} (N n : Nat) (x3 : List Int) (x4 : List Int) (x5 : Int) (x6 : List Int) (k : Ex → St → Option R) :
    evLoop 0 parquetref01_Mul.h3 (fun s k => evCode (parquetref01_Mul.E N) 394 parquetref01_Mul.b3 s k) n [.il .u32 1 x3, .il .u32 1 x4, .sw 0 1, .c (.int .i64 x5)] [.ints .u32 x6] k = parquetref01_Mul.l3 N n x3 x4 x5 x6 (fun x21 => k (.exit 0) ⟨mkT parquetref01_Mul.h3.out [.sw 0 1], [.ints .u32 x21]⟩) := by
  induction n generalizing x3 x4 x5 x6 with
  | zero => kernel_rfl
  | succ n ih =>
    simp only [parquetref01_Mul.l3, ← ih]
    kernel_rfl
noncomputable def parquetref01_Mul.dec (v : V) (bs : List Blk) : Option (List Int) := match v, bs with
  | .il .u32 1 z0, [] => some z0
  | _, _ => none
set_option maxRecDepth 100000 in
theorem parquetref01_Mul.f_eq (N : Nat) (a1 : List Int) (a2 : List Int) :
    evFun (parquetref01_Mul.E N) parquetref01_Mul.body [.il .u32 1 a1, .il .u32 1 a2] [] parquetref01_Mul.dec = parquetref01_Mul.f N a1 a2 := by kernel_rfl
noncomputable def parquetref01_Mul.ent (N : Nat) : Entry := { A := List Int, fresh := 0, imm := [true, true], dec := fun args bs => match freezeL 0 (fun _ => .dead) [.il .u32 1, .il .u32 1] args, bs with
  | some [.il .u32 1 a1, .il .u32 1 a2], [] => some (parquetref01_Mul.f N a1 a2, fun r => .one (.il .u32 1 r) [])
  | _, _ => none }
theorem parquetref01_Mul.env (N : Nat) : EnvOK Tryz.prog (parquetref01_Mul.E N) := ⟨(TyOK.cons ty41_ok (TyOK.cons ty51_ok (TyOK.cons ty99_ok TyOK.nil))), (TabOK.cons (parquetref01_cut.ent_ok N) TabOK.nil)⟩
theorem parquetref01_Mul.res_eq (N : Nat) : (parquetref01_Mul.E N).res = Tryz.f58.results.toList := by kernel_rfl
theorem parquetref01_Mul.k7 (N : Nat) : CutOK Tryz.prog Tryz.f58 (parquetref01_Mul.E N) (.loop parquetref01_Mul.b7) := by
  intro e hd he hh R vs H k r h
  have e1 : (parquetref01_Mul.E N).cut (loopKey parquetref01_Mul.b7) = some (parquetref01_Mul.c7 N) := by kernel_rfl
  have e2 : (parquetref01_Mul.E N).hint (loopKey parquetref01_Mul.b7) = some parquetref01_Mul.h7 := by kernel_rfl
  rw [e1] at he; rw [e2] at hh; cases he; cases hh
  unfold parquetref01_Mul.c7 at h; dsimp only at h
  split at h
  · rw [← parquetref01_Mul.l7_eq] at h
    exact loop_ok (evCode_ok (parquetref01_Mul.env N) Tryz_mixed (parquetref01_Mul.res_eq N) 387 parquetref01_Mul.b7 (AllCut.of (l := []) (by kernel_rfl) AllCut.nil)) h
  · cases h
theorem parquetref01_Mul.k3 (N : Nat) : CutOK Tryz.prog Tryz.f58 (parquetref01_Mul.E N) (.loop parquetref01_Mul.b3) := by
  intro e hd he hh R vs H k r h
  have e1 : (parquetref01_Mul.E N).cut (loopKey parquetref01_Mul.b3) = some (parquetref01_Mul.c3 N) := by kernel_rfl
  have e2 : (parquetref01_Mul.E N).hint (loopKey parquetref01_Mul.b3) = some parquetref01_Mul.h3 := by kernel_rfl
  rw [e1] at he; rw [e2] at hh; cases he; cases hh
  unfold parquetref01_Mul.c3 at h; dsimp only at h
  split at h
  · rw [← parquetref01_Mul.l3_eq] at h
    exact loop_ok (evCode_ok (parquetref01_Mul.env N) Tryz_mixed (parquetref01_Mul.res_eq N) 394 parquetref01_Mul.b3 (AllCut.of (l := [(.loop (inner ((subLoops parquetref01_Mul.body).getD 1 .skip)))]) (by kernel_rfl) (AllCut.cons (parquetref01_Mul.k7 N) AllCut.nil))) h
  · cases h
theorem parquetref01_Mul.spec (N : Nat) (a1 : List Int) (a2 : List Int) (r : List Int) (h : parquetref01_Mul.f N a1 a2 = some r) : FnSpec Tryz.prog 58 [.il .u32 1 a1, .il .u32 1 a2] [] (.il .u32 1 r) ([]) := by
  rw [← parquetref01_Mul.f_eq] at h
  obtain ⟨v, bs', h1, h2⟩ := evFun_ok (parquetref01_Mul.env N) Tryz_mixed Tryz.func58 (by kernel_rfl : Tryz.f58.body = some parquetref01_Mul.body) (by kernel_rfl) (parquetref01_Mul.res_eq N) (by kernel_rfl) (by kernel_rfl) (Nat.le_of_ble_eq_true (by kernel_rfl)) (AllCut.of (l := [(.loop (inner ((subLoops parquetref01_Mul.body).getD 0 .skip))), (.loop (inner ((subLoops parquetref01_Mul.body).getD 1 .skip)))]) (by kernel_rfl) (AllCut.cons (parquetref01_Mul.k3 N) (AllCut.cons (parquetref01_Mul.k7 N) AllCut.nil))) h
  unfold parquetref01_Mul.dec at h1; split at h1
  · cases h1; exact h2
  · cases h1
theorem parquetref01_Mul.ent_ok (N : Nat) : TabOK1 Tryz.prog 58 (parquetref01_Mul.ent N) := by
  intro args bs a enc h
  simp only [parquetref01_Mul.ent] at h
  split at h
  · rename_i hz; have h0 := Option.some.inj h; have h1 := congrArg Prod.fst h0; have h2 := congrArg Prod.snd h0; dsimp only at h1 h2; subst h2; exact FnSpec.of_freeze hz (parquetref01_Mul.spec N _ _ a h1)
  · cases h
/-! parquet/parquetref01.Div: function 80 -/
noncomputable def parquetref01_Div.l9 {R : Type} (N : Nat) : Nat → List Int → List Int → Nat → Nat → Int → Int → Int → List Int → List Int → (List Int → List Int → Nat → Nat → Int → Int → List Int → List Int → Option R) → Option R
  | 0, _, _, _, _, _, _, _, _, _, _ => none
  | n + 1, x9, x10, x11, x12, x13, x14, x15, x16, x17, k2 =>
    bif decide ((wu64 (x15 - x14)) > 1) then
      (parquetref01_Of.f N (wu64 (Int.tdiv (wu64 (x14 + x15)) 2))).bind fun r18 =>
      (parquetref01_Mul.f N r18 x10).bind fun r19 =>
      (parquetref01_Cmp.f N r19 ((x17.drop x11).take x12)).bind fun r20 =>
      bif decide (r20 ≤ 0) then
        parquetref01_Div.l9 N n x9 x10 x11 x12 x13 (wu64 (Int.tdiv (wu64 (x14 + x15)) 2)) x15 x16 x17 k2
      else
      parquetref01_Div.l9 N n x9 x10 x11 x12 x13 x14 (wu64 (Int.tdiv (wu64 (x14 + x15)) 2)) x16 x17 k2
    else
    k2 x9 x10 x11 x12 x13 x14 x16 x17
noncomputable def parquetref01_Div.l4 {R : Type} (N : Nat) : Nat → List Int → List Int → List Int → Int → List Int → (List Int → List Int → Option R) → Option R
  | 0, _, _, _, _, _, _ => none
  | n + 1, x3, x4, x5, x6, x7, k0 =>
    bif decide (x6 ≥ 0) then
      bif (decide (0 ≤ x6)) && (decide (x6 < (x3.length : Int))) then
        bif roomy (1 + x5.length) 4 then
          (parquetref01_cut.f N 0 (([x3.getD x6.toNat 0] ++ x5).length) ([x3.getD x6.toNat 0] ++ x5)).bind fun r8 =>
          parquetref01_Div.l9 N N x3 x4 r8.1 r8.2.1 x6 0 65536 x7 r8.2.2
            (fun y29 y30 y31 y32 y33 y34 y35 y36 =>
              bif (decide (0 ≤ y33)) && (decide (y33 < (y35.length : Int))) then
                (parquetref01_Of.f N y34).bind fun r37 =>
                (parquetref01_Mul.f N r37 y30).bind fun r38 =>
                (parquetref01_Sub.f N ((y36.drop y31).take y32) r38).bind fun r39 =>
                parquetref01_Div.l4 N n y29 y30 r39 (wi64 (y33 - 1)) (y35.set y33.toNat (wu32 y34)) k0
              else none)
        else none
      else none
    else
    k0 x5 x7
noncomputable def parquetref01_Div.f (N : Nat) (a1 : List Int) (a2 : List Int) : Option (List Int × List Int) :=
  bif decide ((a1.length : Int) = (a1.length : Int)) && decide (0 ≤ (a1.length : Int)) && decide ((a1.length : Int) ≤ 9223372036854775807) && roomy ((a1.length : Int).toNat) 4 then
    parquetref01_Div.l4 N N a1 a2 [] (wi64 ((a1.length : Int) - 1)) (List.replicate ((a1.length : Int).toNat) (0 : Int))
      (fun y42 y43 =>
        (parquetref01_cut.f N 0 y43.length y43).bind fun r44 =>
        some ((r44.2.2.drop r44.1).take r44.2.1, y42))
  else none
noncomputable def parquetref01_Div.body : Code := (Tryz.f80.body).getD .skip
noncomputable def parquetref01_Div.ty : List (Nat × TI) := [(41, ty41), (51, ty51), (99, ty99)]
noncomputable def parquetref01_Div.h4 : Hint := ⟨[(0, .il .u32 1), (1, .il .u32 1), (6, .row .u32 1), (7, .il .u32 1), (8, .any)], [(6, .row .u32 1), (7, .il .u32 1)]⟩
noncomputable def parquetref01_Div.h9 : Hint := ⟨[(0, .il .u32 1), (1, .il .u32 1), (6, .row .u32 1), (7, .part .u32 1), (8, .any), (9, .any), (10, .any)], [(0, .il .u32 1), (1, .il .u32 1), (6, .row .u32 1), (7, .part .u32 1), (8, .any), (9, .any)]⟩
noncomputable def parquetref01_Div.c9 (N : Nat) : Cut := ⟨fun vs H k => match vs, H with
  | [.il .u32 1 x9, .il .u32 1 x10, .sw 0 1, .sl 1 1 x11 x12, .c (.int .i64 x13), .c (.int .u64 x14), .c (.int .u64 x15)], [.ints .u32 x16, .ints .u32 x17] => parquetref01_Div.l9 N N x9 x10 x11 x12 x13 x14 x15 x16 x17 (fun x21 x22 x23 x24 x25 x26 x27 x28 => k (.exit 2) ⟨mkT parquetref01_Div.h9.out [.il .u32 1 x21, .il .u32 1 x22, .sw 0 1, .sl 1 1 x23 x24, .c (.int .i64 x25), .c (.int .u64 x26)], [.ints .u32 x27, .ints .u32 x28]⟩)
  | _, _ => none⟩
noncomputable def parquetref01_Div.c4 (N : Nat) : Cut := ⟨fun vs H k => match vs, H with
  | [.il .u32 1 x3, .il .u32 1 x4, .sw 0 1, .il .u32 1 x5, .c (.int .i64 x6)], [.ints .u32 x7] => parquetref01_Div.l4 N N x3 x4 x5 x6 x7 (fun x40 x41 => k (.exit 0) ⟨mkT parquetref01_Div.h4.out [.sw 0 1, .il .u32 1 x40], [.ints .u32 x41]⟩)
  | _, _ => none⟩
noncomputable def parquetref01_Div.E (N : Nat) : Env := { ty := lookN parquetref01_Div.ty, tab := lookN [(79, parquetref01_cut.ent N), (57, parquetref01_Of.ent N), (58, parquetref01_Mul.ent N), (55, parquetref01_Cmp.ent N), (56, parquetref01_Sub.ent N)], hint := lookN [(4, parquetref01_Div.h4), (9, parquetref01_Div.h9)], cut := lookN [(9, parquetref01_Div.c9 N), (4, parquetref01_Div.c4 N)], N := N, res := [.tmp 4, .tmp 5], rsh := [.il .u32 1, .il .u32 1], nb := 0, ntmps := 63, own := false }
noncomputable def parquetref01_Div.b9 : Code := inner ((subLoops parquetref01_Div.body).getD 1 .skip)
set_option maxRecDepth 100000 in
theorem parquetref01_Div.l9_eq {R : Type} (N n : Nat) (x9 : List Int) (x10 : List Int) (x11 : Nat) (x12 : Nat) (x13 : Int) (x14 : Int) (x15 : Int) (x16 : List Int) (x17 : List Int) (k : Ex → St → Option R) :
    evLoop 0 parquetref01_Div.h9 (fun s k => evCode (parquetref01_Div.E N) 384 parquetref01_Div.b9 s k) n [.il .u32 1 x9, .il .u32 1 x10, .sw 0 1, .sl 1 1 x11 x12, .c (.int .i64 x13), .c (.int .u64 x14), .c (.int .u64 x15)] [.ints .u32 x16, .ints .u32 x17] k = parquetref01_Div.l9 N n x9 x10 x11 x12 x13 x14 x15 x16 x17 (fun x21 x22 x23 x24 x25 x26 x27 x28 => k (.exit 2) ⟨mkT parquetref01_Div.h9.out [.il .u32 1 x21, .il .u32 1 x22, .sw 0 1, .sl 1 1 x23 x24, .c (.int .i64 x25), .c (.int .u64 x26)], [.ints .u32 x27, .ints .u32 x28]⟩) := by
  induction n generalizing x9 x10 x11 x12 x13 x14 x15 x16 x17 with
  | zero => kernel_rfl
  | succ n ih =>
    simp only [parquetref01_Div.l9, ← ih]
    kernel_rfl
noncomputable def parquetref01_Div.b4 : Code := inner ((subLoops parquetref01_Div.body).getD 0 .skip)
set_option maxRecDepth 100000 in
theorem parquetref01_Div.l4_eq {R : Type} (N n : Nat) (x3 : List Int) (x4 : List Int) (x5 : List Int) (x6 : Int) (x7 : List Int) (k : Ex → St → Option R) :
    evLoop 0 parquetref01_Div.h4 (fun s k => evCode (parquetref01_Div.E N) 393 parquetref01_Div.b4 s k) n [.il .u32 1 x3, .il .u32 1 x4, .sw 0 1, .il .u32 1 x5, .c (.int .i64 x6)] [.ints .u32 x7] k = parquetref01_Div.l4 N n x3 x4 x5 x6 x7 (fun x40 x41 => k (.exit 0) ⟨mkT parquetref01_Div.h4.out [.sw 0 1, .il .u32 1 x40], [.ints .u32 x41]⟩) := by
  induction n generalizing x3 x4 x5 x6 x7 with
  | zero => kernel_rfl
  | succ n ih =>
    simp only [parquetref01_Div.l4, ← ih]
    kernel_rfl
noncomputable def parquetref01_Div.dec (v : V) (bs : List Blk) : Option (List Int × List Int) := match v, bs with
  | .tup [.il .u32 1 z0, .il .u32 1 z1], [] => some (z0, z1)
  | _, _ => none
set_option maxRecDepth 100000 in
theorem parquetref01_Div.f_eq (N : Nat) (a1 : List Int) (a2 : List Int) :
    evFun (parquetref01_Div.E N) parquetref01_Div.body [.il .u32 1 a1, .il .u32 1 a2] [] parquetref01_Div.dec = parquetref01_Div.f N a1 a2 := by kernel_rfl
noncomputable def parquetref01_Div.ent (N : Nat) : Entry := { A := List Int × List Int, fresh := 0, imm := [true, true], dec := fun args bs => match freezeL 0 (fun _ => .dead) [.il .u32 1, .il .u32 1] args, bs with
  | some [.il .u32 1 a1, .il .u32 1 a2], [] => some (parquetref01_Div.f N a1 a2, fun r => .one (.tup [.il .u32 1 r.1, .il .u32 1 r.2]) [])
  | _, _ => none }
theorem parquetref01_Div.env (N : Nat) : EnvOK Tryz.prog (parquetref01_Div.E N) := ⟨(TyOK.cons ty41_ok (TyOK.cons ty51_ok (TyOK.cons ty99_ok TyOK.nil))), (TabOK.cons (parquetref01_cut.ent_ok N) (TabOK.cons (parquetref01_Of.ent_ok N) (TabOK.cons (parquetref01_Mul.ent_ok N) (TabOK.cons (parquetref01_Cmp.ent_ok N) (TabOK.cons (parquetref01_Sub.ent_ok N) TabOK.nil)))))⟩
theorem parquetref01_Div.res_eq (N : Nat) : (parquetref01_Div.E N).res = Tryz.f80.results.toList := by kernel_rfl
theorem parquetref01_Div.k9 (N : Nat) : CutOK Tryz.prog Tryz.f80 (parquetref01_Div.E N) (.loop parquetref01_Div.b9) := by
  intro e hd he hh R vs H k r h
  have e1 : (parquetref01_Div.E N).cut (loopKey parquetref01_Div.b9) = some (parquetref01_Div.c9 N) := by kernel_rfl
  have e2 : (parquetref01_Div.E N).hint (loopKey parquetref01_Div.b9) = some parquetref01_Div.h9 := by kernel_rfl
  rw [e1] at he; rw [e2] at hh; cases he; cases hh
  unfold parquetref01_Div.c9 at h; dsimp only at h
  split at h
  · rw [← parquetref01_Div.l9_eq] at h
    exact loop_ok (evCode_ok (parquetref01_Div.env N) Tryz_mixed (parquetref01_Div.res_eq N) 384 parquetref01_Div.b9 (AllCut.of (l := []) (by kernel_rfl) AllCut.nil)) h
  · cases h
theorem parquetref01_Div.k4 (N : Nat) : CutOK Tryz.prog Tryz.f80 (parquetref01_Div.E N) (.loop parquetref01_Div.b4) := by
  intro e hd he hh R vs H k r h
  have e1 : (parquetref01_Div.E N).cut (loopKey parquetref01_Div.b4) = some (parquetref01_Div.c4 N) := by kernel_rfl
  have e2 : (parquetref01_Div.E N).hint (loopKey parquetref01_Div.b4) = some parquetref01_Div.h4 := by kernel_rfl
  rw [e1] at he; rw [e2] at hh; cases he; cases hh
  unfold parquetref01_Div.c4 at h; dsimp only at h
  split at h
  · rw [← parquetref01_Div.l4_eq] at h
    exact loop_ok (evCode_ok (parquetref01_Div.env N) Tryz_mixed (parquetref01_Div.res_eq N) 393 parquetref01_Div.b4 (AllCut.of (l := [(.loop (inner ((subLoops parquetref01_Div.body).getD 1 .skip)))]) (by kernel_rfl) (AllCut.cons (parquetref01_Div.k9 N) AllCut.nil))) h
  · cases h
theorem parquetref01_Div.spec (N : Nat) (a1 : List Int) (a2 : List Int) (r : List Int × List Int) (h : parquetref01_Div.f N a1 a2 = some r) : FnSpec Tryz.prog 80 [.il .u32 1 a1, .il .u32 1 a2] [] (.tup [.il .u32 1 r.1, .il .u32 1 r.2]) ([]) := by
  rw [← parquetref01_Div.f_eq] at h
  obtain ⟨v, bs', h1, h2⟩ := evFun_ok (parquetref01_Div.env N) Tryz_mixed Tryz.func80 (by kernel_rfl : Tryz.f80.body = some parquetref01_Div.body) (by kernel_rfl) (parquetref01_Div.res_eq N) (by kernel_rfl) (by kernel_rfl) (Nat.le_of_ble_eq_true (by kernel_rfl)) (AllCut.of (l := [(.loop (inner ((subLoops parquetref01_Div.body).getD 0 .skip))), (.loop (inner ((subLoops parquetref01_Div.body).getD 1 .skip)))]) (by kernel_rfl) (AllCut.cons (parquetref01_Div.k4 N) (AllCut.cons (parquetref01_Div.k9 N) AllCut.nil))) h
  unfold parquetref01_Div.dec at h1; split at h1
  · cases h1; exact h2
  · cases h1
theorem parquetref01_Div.ent_ok (N : Nat) : TabOK1 Tryz.prog 80 (parquetref01_Div.ent N) := by
  intro args bs a enc h
  simp only [parquetref01_Div.ent] at h
  split at h
  · rename_i hz; have h0 := Option.some.inj h; have h1 := congrArg Prod.fst h0; have h2 := congrArg Prod.snd h0; dsimp only at h1 h2; subst h2; exact FnSpec.of_freeze hz (parquetref01_Div.spec N _ _ a h1)
  · cases h
/-! parquet/parquetref01.Gcd: function 74 -/
noncomputable def parquetref01_Gcd.l1 {R : Type} (N : Nat) : Nat → List Int → List Int → (List Int → Option R) → Option R
  | 0, _, _, _ => none
  | n + 1, x3, x4, k0 =>
    bif decide ((x4.length : Int) > 0) then
      (parquetref01_Div.f N x3 x4).bind fun r5 =>
      parquetref01_Gcd.l1 N n x4 r5.2 k0
    else
    k0 x3
noncomputable def parquetref01_Gcd.f (N : Nat) (a1 : List Int) (a2 : List Int) : Option (List Int) :=
  parquetref01_Gcd.l1 N N a1 a2
    (fun y7 =>
      some y7)
noncomputable def parquetref01_Gcd.body : Code := (Tryz.f74.body).getD .skip
noncomputable def parquetref01_Gcd.ty : List (Nat × TI) := [(51, ty51)]
noncomputable def parquetref01_Gcd.h1 : Hint := ⟨[(0, .il .u32 1), (1, .il .u32 1)], [(0, .il .u32 1)]⟩
noncomputable def parquetref01_Gcd.c1 (N : Nat) : Cut := ⟨fun vs H k => match vs, H with
  | [.il .u32 1 x3, .il .u32 1 x4], [] => parquetref01_Gcd.l1 N N x3 x4 (fun x6 => k (.exit 0) ⟨mkT parquetref01_Gcd.h1.out [.il .u32 1 x6], []⟩)
  | _, _ => none⟩
noncomputable def parquetref01_Gcd.E (N : Nat) : Env := { ty := lookN parquetref01_Gcd.ty, tab := lookN [(80, parquetref01_Div.ent N)], hint := lookN [(1, parquetref01_Gcd.h1)], cut := lookN [(1, parquetref01_Gcd.c1 N)], N := N, res := [.tmp 4], rsh := [.il .u32 1], nb := 0, ntmps := 19, own := false }
noncomputable def parquetref01_Gcd.b1 : Code := inner ((subLoops parquetref01_Gcd.body).getD 0 .skip)
set_option maxRecDepth 100000 in
theorem parquetref01_Gcd.l1_eq {R : Type} (N n : Nat) (x3 : List Int) (x4 : List Int) (k : Ex → St → Option R) :
    evLoop 0 parquetref01_Gcd.h1 (fun s k => evCode (parquetref01_Gcd.E N) 396 parquetref01_Gcd.b1 s k) n [.il .u32 1 x3, .il .u32 1 x4] [] k = parquetref01_Gcd.l1 N n x3 x4 (fun x6 => k (.exit 0) ⟨mkT parquetref01_Gcd.h1.out [.il .u32 1 x6], []⟩) := by
  induction n generalizing x3 x4 with
  | zero => kernel_rfl
  | succ n ih =>
    simp only [parquetref01_Gcd.l1, ← ih]
    kernel_rfl
noncomputable def parquetref01_Gcd.dec (v : V) (bs : List Blk) : Option (List Int) := match v, bs with
  | .il .u32 1 z0, [] => some z0
  | _, _ => none
set_option maxRecDepth 100000 in
theorem parquetref01_Gcd.f_eq (N : Nat) (a1 : List Int) (a2 : List Int) :
    evFun (parquetref01_Gcd.E N) parquetref01_Gcd.body [.il .u32 1 a1, .il .u32 1 a2] [] parquetref01_Gcd.dec = parquetref01_Gcd.f N a1 a2 := by kernel_rfl
noncomputable def parquetref01_Gcd.ent (N : Nat) : Entry := { A := List Int, fresh := 0, imm := [true, true], dec := fun args bs => match freezeL 0 (fun _ => .dead) [.il .u32 1, .il .u32 1] args, bs with
  | some [.il .u32 1 a1, .il .u32 1 a2], [] => some (parquetref01_Gcd.f N a1 a2, fun r => .one (.il .u32 1 r) [])
  | _, _ => none }
theorem parquetref01_Gcd.env (N : Nat) : EnvOK Tryz.prog (parquetref01_Gcd.E N) := ⟨(TyOK.cons ty51_ok TyOK.nil), (TabOK.cons (parquetref01_Div.ent_ok N) TabOK.nil)⟩
theorem parquetref01_Gcd.res_eq (N : Nat) : (parquetref01_Gcd.E N).res = Tryz.f74.results.toList := by kernel_rfl
theorem parquetref01_Gcd.k1 (N : Nat) : CutOK Tryz.prog Tryz.f74 (parquetref01_Gcd.E N) (.loop parquetref01_Gcd.b1) := by
  intro e hd he hh R vs H k r h
  have e1 : (parquetref01_Gcd.E N).cut (loopKey parquetref01_Gcd.b1) = some (parquetref01_Gcd.c1 N) := by kernel_rfl
  have e2 : (parquetref01_Gcd.E N).hint (loopKey parquetref01_Gcd.b1) = some parquetref01_Gcd.h1 := by kernel_rfl
  rw [e1] at he; rw [e2] at hh; cases he; cases hh
  unfold parquetref01_Gcd.c1 at h; dsimp only at h
  split at h
  · rw [← parquetref01_Gcd.l1_eq] at h
    exact loop_ok (evCode_ok (parquetref01_Gcd.env N) Tryz_mixed (parquetref01_Gcd.res_eq N) 396 parquetref01_Gcd.b1 (AllCut.of (l := []) (by kernel_rfl) AllCut.nil)) h
  · cases h
theorem parquetref01_Gcd.spec (N : Nat) (a1 : List Int) (a2 : List Int) (r : List Int) (h : parquetref01_Gcd.f N a1 a2 = some r) : FnSpec Tryz.prog 74 [.il .u32 1 a1, .il .u32 1 a2] [] (.il .u32 1 r) ([]) := by
  rw [← parquetref01_Gcd.f_eq] at h
  obtain ⟨v, bs', h1, h2⟩ := evFun_ok (parquetref01_Gcd.env N) Tryz_mixed Tryz.func74 (by kernel_rfl : Tryz.f74.body = some parquetref01_Gcd.body) (by kernel_rfl) (parquetref01_Gcd.res_eq N) (by kernel_rfl) (by kernel_rfl) (Nat.le_of_ble_eq_true (by kernel_rfl)) (AllCut.of (l := [(.loop (inner ((subLoops parquetref01_Gcd.body).getD 0 .skip)))]) (by kernel_rfl) (AllCut.cons (parquetref01_Gcd.k1 N) AllCut.nil)) h
  unfold parquetref01_Gcd.dec at h1; split at h1
  · cases h1; exact h2
  · cases h1
theorem parquetref01_Gcd.ent_ok (N : Nat) : TabOK1 Tryz.prog 74 (parquetref01_Gcd.ent N) := by
  intro args bs a enc h
  simp only [parquetref01_Gcd.ent] at h
  split at h
  · rename_i hz; have h0 := Option.some.inj h; have h1 := congrArg Prod.fst h0; have h2 := congrArg Prod.snd h0; dsimp only at h1 h2; subst h2; exact FnSpec.of_freeze hz (parquetref01_Gcd.spec N _ _ a h1)
  · cases h
end Go.Proofs.YtbnoablfajmaeaaGreat
