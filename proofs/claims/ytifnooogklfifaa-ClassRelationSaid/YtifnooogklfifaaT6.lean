-- The seat's functions as the evaluator goes through them: typed models and their laws.
import Derived.Test.YtifnooogklfifaaProg
import Derived.Test.YtifnooogklfifaaEvF
import Derived.Test.YtifnooogklfifaaT5
import Derived.KernelRfl
namespace Go.Proofs.Ytifnooogklfifaa
open Go.Proofs.Ytifnooogklfifaa.Ev
set_option linter.unusedVariables false
open Go

noncomputable def ty45 : TI := ⟨.arr 9 2, 9, 72, [.int .i64 0, .int .i64 0, .int .i64 0, .int .i64 0, .int .i64 0, .int .i64 0, .int .i64 0, .int .i64 0, .int .i64 0]⟩
noncomputable def ty46 : TI := ⟨.arr 17 2, 17, 136, [.int .i64 0, .int .i64 0, .int .i64 0, .int .i64 0, .int .i64 0, .int .i64 0, .int .i64 0, .int .i64 0, .int .i64 0, .int .i64 0, .int .i64 0, .int .i64 0, .int .i64 0, .int .i64 0, .int .i64 0, .int .i64 0, .int .i64 0]⟩
theorem ty45_ok : TyOK1 Try.prog 45 ty45 := tyok_of (by kernel_rfl) (by kernel_rfl) (by kernel_rfl) (by kernel_rfl) (by kernel_rfl) (by kernel_rfl) (by kernel_rfl) (Try.underlying45) (by kernel_rfl)
theorem ty46_ok : TyOK1 Try.prog 46 ty46 := tyok_of (by kernel_rfl) (by kernel_rfl) (by kernel_rfl) (by kernel_rfl) (by kernel_rfl) (by kernel_rfl) (by kernel_rfl) (Try.underlying46) (by kernel_rfl)
/-! parquet/classes.all: function 26 -/
noncomputable def classes_all.l3 {R : Type} (N : Nat) : Nat → List Int → List (List Int) → List Int → List Nat → Nat → (List Int → Option R) → Option R
  | 0, _, _, _, _, _, _ => none
  | n + 1, x3, x4, x5, x6, x7, k0 =>
    bif x6.isEmpty then
      k0 x3
    else
    demon x6.length fun x9 =>
    bif Nat.blt (x6.getD x9 0) x4.length then
      bif (x5.getD (x6.getD x9 0) 0) == 1 then
        bif roomy ((x3.length + 3) / 3) 24 then
          classes_all.l3 N n (x3 ++ [(x4.getD (x6.getD x9 0) []).getD 0 0, (x4.getD (x6.getD x9 0) []).getD 1 0, (x4.getD (x6.getD x9 0) []).getD 2 0]) x4 x5 (x6.eraseIdx x9) (x6.getD x9 0) k0
        else none
      else
      classes_all.l3 N n x3 x4 x5 (x6.eraseIdx x9) (x6.getD x9 0) k0
    else none
noncomputable def classes_all.f (N : Nat) (a1 : Int) : Option (List Int) :=
  (classes_forms.f N a1).bind fun r2 =>
  classes_all.l3 N N [] r2.1 r2.2 (List.range r2.1.length) r2.1.length
    (fun y10 =>
      (slices_SortFunc___parquet_api_Binary_parquet_api_Binary_.f N y10).bind fun r11 =>
      some r11)
noncomputable def classes_all.body : Code := (Try.f26.body).getD .skip
noncomputable def classes_all.ty : List (Nat × TI) := [(2, ty2), (22, ty22), (33, ty33), (53, ty53)]
noncomputable def classes_all.h3 : Hint := ⟨[(3, .row .i64 3), (8, .any)], [(3, .row .i64 3)]⟩
noncomputable def classes_all.c3 (N : Nat) : Cut := ⟨fun vs H k => match vs, H with
  | [.sw 0 3, .ptr 1 0 0], [.ints .i64 x3, .it .i64 3 x4 (.ints .i64 x5) x6 x7] => classes_all.l3 N N x3 x4 x5 x6 x7 (fun x8 => k (.exit 0) ⟨mkT classes_all.h3.out [.sw 0 3], [.ints .i64 x8]⟩)
  | _, _ => none⟩
noncomputable def classes_all.E (N : Nat) : Env := { ty := lookN classes_all.ty, tab := lookN [(31, classes_forms.ent N), (43, slices_SortFunc___parquet_api_Binary_parquet_api_Binary_.ent N)], hint := lookN [(3, classes_all.h3)], cut := lookN [(3, classes_all.c3 N)], N := N, res := [.tmp 2], rsh := [.row .i64 3], nb := 0, ntmps := 23, own := true }
noncomputable def classes_all.b3 : Code := inner ((subLoops classes_all.body).getD 0 .skip)
set_option maxRecDepth 100000 in
theorem classes_all.l3_eq {R : Type} (N n : Nat) (x3 : List Int) (x4 : List (List Int)) (x5 : List Int) (x6 : List Nat) (x7 : Nat) (k : Ex → St → Option R) :
    evLoop 0 classes_all.h3 (fun s k => evCode (classes_all.E N) 394 classes_all.b3 s k) n [.sw 0 3, .ptr 1 0 0] [.ints .i64 x3, .it .i64 3 x4 (.ints .i64 x5) x6 x7] k = classes_all.l3 N n x3 x4 x5 x6 x7 (fun x8 => k (.exit 0) ⟨mkT classes_all.h3.out [.sw 0 3], [.ints .i64 x8]⟩) := by
  induction n generalizing x3 x4 x5 x6 x7 with
  | zero => kernel_rfl
  | succ n ih =>
    simp only [classes_all.l3, ← ih]
    kernel_rfl
noncomputable def classes_all.dec (v : V) (bs : List Blk) : Option (List Int) := match v, bs with
  | .sw 0 3, [.ints .i64 z0] => some z0
  | _, _ => none
set_option maxRecDepth 100000 in
theorem classes_all.f_eq (N : Nat) (a1 : Int) :
    evFun (classes_all.E N) classes_all.body [.c (.int .i64 a1)] [] classes_all.dec = classes_all.f N a1 := by kernel_rfl
noncomputable def classes_all.ent (N : Nat) : Entry := { A := List Int, fresh := 1, imm := [true], dec := fun args bs => match freezeL 0 (fun _ => .dead) [.any] args, bs with
  | some [.c (.int .i64 a1)], [] => some (classes_all.f N a1, fun r => .one (.sw 0 3) [.ints .i64 r])
  | _, _ => none }
theorem classes_all.env (N : Nat) : EnvOK Try.prog (classes_all.E N) := ⟨(TyOK.cons ty2_ok (TyOK.cons ty22_ok (TyOK.cons ty33_ok (TyOK.cons ty53_ok TyOK.nil)))), (TabOK.cons (classes_forms.ent_ok N) (TabOK.cons (slices_SortFunc___parquet_api_Binary_parquet_api_Binary_.ent_ok N) TabOK.nil))⟩
theorem classes_all.res_eq (N : Nat) : (classes_all.E N).res = Try.f26.results.toList := by kernel_rfl
theorem classes_all.k3 (N : Nat) : CutOK Try.prog Try.f26 (classes_all.E N) (.loop classes_all.b3) := by
  intro e hd he hh R vs H k r h
  have e1 : (classes_all.E N).cut (loopKey classes_all.b3) = some (classes_all.c3 N) := by kernel_rfl
  have e2 : (classes_all.E N).hint (loopKey classes_all.b3) = some classes_all.h3 := by kernel_rfl
  rw [e1] at he; rw [e2] at hh; cases he; cases hh
  unfold classes_all.c3 at h; dsimp only at h
  split at h
  · rw [← classes_all.l3_eq] at h
    exact loop_ok (evCode_ok (classes_all.env N) Try_mixed (classes_all.res_eq N) 394 classes_all.b3 (AllCut.of (l := []) (by kernel_rfl) AllCut.nil)) h
  · cases h
theorem classes_all.spec (N : Nat) (a1 : Int) (r : List Int) (h : classes_all.f N a1 = some r) : FnSpec Try.prog 26 [.c (.int .i64 a1)] [] (.sw 0 3) ([.ints .i64 r]) := by
  rw [← classes_all.f_eq] at h
  refine (evFun_ok (classes_all.env N) Try_mixed Try.func26 (by kernel_rfl : Try.f26.body = some classes_all.body) (by kernel_rfl) (classes_all.res_eq N) (by kernel_rfl) (by kernel_rfl) (Nat.le_of_ble_eq_true (by kernel_rfl)) (AllCut.of (l := [(.loop (inner ((subLoops classes_all.body).getD 0 .skip)))]) (by kernel_rfl) (AllCut.cons (classes_all.k3 N) AllCut.nil)) h).of fun v bs' h1 => ?_
  unfold classes_all.dec at h1; split at h1
  · cases h1; exact ⟨rfl, rfl⟩
  · cases h1
theorem classes_all.ent_ok (N : Nat) : TabOK1 Try.prog 26 (classes_all.ent N) := by
  intro args bs a enc h
  simp only [classes_all.ent] at h
  split at h
  · rename_i hz; have h0 := Option.some.inj h; have h1 := congrArg Prod.fst h0; have h2 := congrArg Prod.snd h0; dsimp only at h1 h2; subst h2; exact FnSpec.of_freeze hz (classes_all.spec N _ a h1)
  · cases h
/-! parquet/classes.All: function 9 -/
noncomputable def classes_All.f (N : Nat) (a1 : Int) : Option (List Int × Int) :=
  (classes_Check.f N a1).bind fun r2 =>
  bif r2 != 0 then
    some ([], r2)
  else
  (classes_all.f N a1).bind fun r3 =>
  some (r3, 0)
noncomputable def classes_All.body : Code := (Try.f9.body).getD .skip
noncomputable def classes_All.ty : List (Nat × TI) := []
noncomputable def classes_All.E (N : Nat) : Env := { ty := lookN classes_All.ty, tab := lookN [(12, classes_Check.ent N), (26, classes_all.ent N)], hint := lookN [], cut := lookN [], N := N, res := [.tmp 2, .tmp 3], rsh := [.row .i64 3, .any], nb := 0, ntmps := 12, own := true }
noncomputable def classes_All.dec (v : V) (bs : List Blk) : Option (List Int × Int) := match v, bs with
  | .tup [.sw 0 3, .c (.int .i64 z1)], [.ints .i64 z0] => some (z0, z1)
  | _, _ => none
set_option maxRecDepth 100000 in
theorem classes_All.f_eq (N : Nat) (a1 : Int) :
    evFun (classes_All.E N) classes_All.body [.c (.int .i64 a1)] [] classes_All.dec = classes_All.f N a1 := by kernel_rfl
noncomputable def classes_All.ent (N : Nat) : Entry := { A := List Int × Int, fresh := 1, imm := [true], dec := fun args bs => match freezeL 0 (fun _ => .dead) [.any] args, bs with
  | some [.c (.int .i64 a1)], [] => some (classes_All.f N a1, fun r => .one (.tup [.sw 0 3, .c (.int .i64 r.2)]) [.ints .i64 r.1])
  | _, _ => none }
theorem classes_All.env (N : Nat) : EnvOK Try.prog (classes_All.E N) := ⟨TyOK.nil, (TabOK.cons (classes_Check.ent_ok N) (TabOK.cons (classes_all.ent_ok N) TabOK.nil))⟩
theorem classes_All.res_eq (N : Nat) : (classes_All.E N).res = Try.f9.results.toList := by kernel_rfl
theorem classes_All.spec (N : Nat) (a1 : Int) (r : List Int × Int) (h : classes_All.f N a1 = some r) : FnSpec Try.prog 9 [.c (.int .i64 a1)] [] (.tup [.sw 0 3, .c (.int .i64 r.2)]) ([.ints .i64 r.1]) := by
  rw [← classes_All.f_eq] at h
  refine (evFun_ok (classes_All.env N) Try_mixed Try.func9 (by kernel_rfl : Try.f9.body = some classes_All.body) (by kernel_rfl) (classes_All.res_eq N) (by kernel_rfl) (by kernel_rfl) (Nat.le_of_ble_eq_true (by kernel_rfl)) (AllCut.of (l := []) (by kernel_rfl) AllCut.nil) h).of fun v bs' h1 => ?_
  unfold classes_All.dec at h1; split at h1
  · cases h1; exact ⟨rfl, rfl⟩
  · cases h1
theorem classes_All.ent_ok (N : Nat) : TabOK1 Try.prog 9 (classes_All.ent N) := by
  intro args bs a enc h
  simp only [classes_All.ent] at h
  split at h
  · rename_i hz; have h0 := Option.some.inj h; have h1 := congrArg Prod.fst h0; have h2 := congrArg Prod.snd h0; dsimp only at h1 h2; subst h2; exact FnSpec.of_freeze hz (classes_All.spec N _ a h1)
  · cases h
/-! parquet/classes.Number: function 10 -/
noncomputable def classes_Number.f (N : Nat) (a1 : Int) : Option (Int × Int) :=
  (classes_All.f N a1).bind fun r2 =>
  some ((r2.1.length / 3 : Int), r2.2)
noncomputable def classes_Number.body : Code := (Try.f10.body).getD .skip
noncomputable def classes_Number.ty : List (Nat × TI) := [(22, ty22)]
noncomputable def classes_Number.E (N : Nat) : Env := { ty := lookN classes_Number.ty, tab := lookN [(9, classes_All.ent N)], hint := lookN [], cut := lookN [], N := N, res := [.tmp 2, .tmp 3], rsh := [.any, .any], nb := 0, ntmps := 14, own := false }
noncomputable def classes_Number.dec (v : V) (bs : List Blk) : Option (Int × Int) := match v, bs with
  | .tup [.c (.int .i64 z0), .c (.int .i64 z1)], [] => some (z0, z1)
  | _, _ => none
set_option maxRecDepth 100000 in
theorem classes_Number.f_eq (N : Nat) (a1 : Int) :
    evFun (classes_Number.E N) classes_Number.body [.c (.int .i64 a1)] [] classes_Number.dec = classes_Number.f N a1 := by kernel_rfl
noncomputable def classes_Number.ent (N : Nat) : Entry := { A := Int × Int, fresh := 0, imm := [true], dec := fun args bs => match freezeL 0 (fun _ => .dead) [.any] args, bs with
  | some [.c (.int .i64 a1)], [] => some (classes_Number.f N a1, fun r => .one (.tup [.c (.int .i64 r.1), .c (.int .i64 r.2)]) [])
  | _, _ => none }
theorem classes_Number.env (N : Nat) : EnvOK Try.prog (classes_Number.E N) := ⟨(TyOK.cons ty22_ok TyOK.nil), (TabOK.cons (classes_All.ent_ok N) TabOK.nil)⟩
theorem classes_Number.res_eq (N : Nat) : (classes_Number.E N).res = Try.f10.results.toList := by kernel_rfl
theorem classes_Number.spec (N : Nat) (a1 : Int) (r : Int × Int) (h : classes_Number.f N a1 = some r) : FnSpec Try.prog 10 [.c (.int .i64 a1)] [] (.tup [.c (.int .i64 r.1), .c (.int .i64 r.2)]) ([]) := by
  rw [← classes_Number.f_eq] at h
  refine (evFun_ok (classes_Number.env N) Try_mixed Try.func10 (by kernel_rfl : Try.f10.body = some classes_Number.body) (by kernel_rfl) (classes_Number.res_eq N) (by kernel_rfl) (by kernel_rfl) (Nat.le_of_ble_eq_true (by kernel_rfl)) (AllCut.of (l := []) (by kernel_rfl) AllCut.nil) h).of fun v bs' h1 => ?_
  unfold classes_Number.dec at h1; split at h1
  · cases h1; exact ⟨rfl, rfl⟩
  · cases h1
theorem classes_Number.ent_ok (N : Nat) : TabOK1 Try.prog 10 (classes_Number.ent N) := by
  intro args bs a enc h
  simp only [classes_Number.ent] at h
  split at h
  · rename_i hz; have h0 := Option.some.inj h; have h1 := congrArg Prod.fst h0; have h2 := congrArg Prod.snd h0; dsimp only at h1 h2; subst h2; exact FnSpec.of_freeze hz (classes_Number.spec N _ a h1)
  · cases h
/-! parquet/classes.Place: function 18 -/
noncomputable def classes_Place.f (N : Nat) (a1 : Int) (a2 : Int) (a3 : Int) : Option (Int × Int) :=
  (binary_Reduce.f N a1 a2 a3).bind fun r4 =>
  bif r4.2.2.2.2.2.2.2 != 0 then
    some (0, r4.2.2.2.2.2.2.2)
  else
  (binary_Disc.f N r4.1 r4.2.1 r4.2.2.1).bind fun r5 =>
  bif decide (r5 < (-65536)) then
    some (0, 80)
  else
  (binary_Content.f N r4.1 r4.2.1 r4.2.2.1).bind fun r6 =>
  bif r6 != 1 then
    some (0, 81)
  else
  (binary_Disc.f N r4.1 r4.2.1 r4.2.2.1).bind fun r7 =>
  (classes_all.f N r7).bind fun r8 =>
  (slices_Index___parquet_api_Binary_parquet_api_Binary_.f N r8 r4.1 r4.2.1 r4.2.2.1).bind fun r9 =>
  some (r9, 0)
noncomputable def classes_Place.body : Code := (Try.f18.body).getD .skip
noncomputable def classes_Place.ty : List (Nat × TI) := [(33, ty33), (40, ty40)]
noncomputable def classes_Place.E (N : Nat) : Env := { ty := lookN classes_Place.ty, tab := lookN [(32, binary_Reduce.ent N), (22, binary_Disc.ent N), (33, binary_Content.ent N), (26, classes_all.ent N), (34, slices_Index___parquet_api_Binary_parquet_api_Binary_.ent N)], hint := lookN [], cut := lookN [], N := N, res := [.tmp 2, .tmp 3], rsh := [.any, .any], nb := 0, ntmps := 30, own := false }
noncomputable def classes_Place.dec (v : V) (bs : List Blk) : Option (Int × Int) := match v, bs with
  | .tup [.c (.int .i64 z0), .c (.int .i64 z1)], [] => some (z0, z1)
  | _, _ => none
set_option maxRecDepth 100000 in
theorem classes_Place.f_eq (N : Nat) (a1 : Int) (a2 : Int) (a3 : Int) :
    evFun (classes_Place.E N) classes_Place.body [.agg [.c (.int .i64 a1), .c (.int .i64 a2), .c (.int .i64 a3)]] [] classes_Place.dec = classes_Place.f N a1 a2 a3 := by kernel_rfl
noncomputable def classes_Place.ent (N : Nat) : Entry := { A := Int × Int, fresh := 0, imm := [true], dec := fun args bs => match freezeL 0 (fun _ => .dead) [.recd [.any, .any, .any]] args, bs with
  | some [.agg [.c (.int .i64 a1), .c (.int .i64 a2), .c (.int .i64 a3)]], [] => some (classes_Place.f N a1 a2 a3, fun r => .one (.tup [.c (.int .i64 r.1), .c (.int .i64 r.2)]) [])
  | _, _ => none }
theorem classes_Place.env (N : Nat) : EnvOK Try.prog (classes_Place.E N) := ⟨(TyOK.cons ty33_ok (TyOK.cons ty40_ok TyOK.nil)), (TabOK.cons (binary_Reduce.ent_ok N) (TabOK.cons (binary_Disc.ent_ok N) (TabOK.cons (binary_Content.ent_ok N) (TabOK.cons (classes_all.ent_ok N) (TabOK.cons (slices_Index___parquet_api_Binary_parquet_api_Binary_.ent_ok N) TabOK.nil)))))⟩
theorem classes_Place.res_eq (N : Nat) : (classes_Place.E N).res = Try.f18.results.toList := by kernel_rfl
theorem classes_Place.spec (N : Nat) (a1 : Int) (a2 : Int) (a3 : Int) (r : Int × Int) (h : classes_Place.f N a1 a2 a3 = some r) : FnSpec Try.prog 18 [.agg [.c (.int .i64 a1), .c (.int .i64 a2), .c (.int .i64 a3)]] [] (.tup [.c (.int .i64 r.1), .c (.int .i64 r.2)]) ([]) := by
  rw [← classes_Place.f_eq] at h
  refine (evFun_ok (classes_Place.env N) Try_mixed Try.func18 (by kernel_rfl : Try.f18.body = some classes_Place.body) (by kernel_rfl) (classes_Place.res_eq N) (by kernel_rfl) (by kernel_rfl) (Nat.le_of_ble_eq_true (by kernel_rfl)) (AllCut.of (l := []) (by kernel_rfl) AllCut.nil) h).of fun v bs' h1 => ?_
  unfold classes_Place.dec at h1; split at h1
  · cases h1; exact ⟨rfl, rfl⟩
  · cases h1
theorem classes_Place.ent_ok (N : Nat) : TabOK1 Try.prog 18 (classes_Place.ent N) := by
  intro args bs a enc h
  simp only [classes_Place.ent] at h
  split at h
  · rename_i hz; have h0 := Option.some.inj h; have h1 := congrArg Prod.fst h0; have h2 := congrArg Prod.snd h0; dsimp only at h1 h2; subst h2; exact FnSpec.of_freeze hz (classes_Place.spec N _ _ _ a h1)
  · cases h
/-! parquet/parquetlaw11.works: function 13 -/
noncomputable def parquetlaw11_works.f (N : Nat) : Option (Bool) :=
  (classes_Number.f N (-23)).bind fun r1 =>
  (classes_Number.f N (-163)).bind fun r2 =>
  (classes_Hurwitz.f N 12).bind fun r3 =>
  bif r1.2 == 0 then
    bif r2.2 == 0 then
      bif r3.2 == 0 then
        bif r1.1 == 3 then
          bif r2.1 == 1 then
            bif r3.1 == 16 then
              (classes_Check.f N (-2)).bind fun r4 =>
              some (r4 == 80)
            else
            some false
          else
          some false
        else
        some false
      else
      some false
    else
    some false
  else
  some false
noncomputable def parquetlaw11_works.body : Code := (Try.f13.body).getD .skip
noncomputable def parquetlaw11_works.ty : List (Nat × TI) := []
noncomputable def parquetlaw11_works.E (N : Nat) : Env := { ty := lookN parquetlaw11_works.ty, tab := lookN [(10, classes_Number.ent N), (16, classes_Hurwitz.ent N), (12, classes_Check.ent N)], hint := lookN [], cut := lookN [], N := N, res := [.tmp 0], rsh := [.any], nb := 0, ntmps := 45, own := false }
noncomputable def parquetlaw11_works.dec (v : V) (bs : List Blk) : Option (Bool) := match v, bs with
  | .c (.bool z0), [] => some z0
  | _, _ => none
set_option maxRecDepth 100000 in
theorem parquetlaw11_works.f_eq (N : Nat) :
    evFun (parquetlaw11_works.E N) parquetlaw11_works.body [] [] parquetlaw11_works.dec = parquetlaw11_works.f N := by kernel_rfl
noncomputable def parquetlaw11_works.ent (N : Nat) : Entry := { A := Bool, fresh := 0, imm := [], dec := fun args bs => match freezeL 0 (fun _ => .dead) [] args, bs with
  | some [], [] => some (parquetlaw11_works.f N, fun r => .one (.c (.bool r)) [])
  | _, _ => none }
theorem parquetlaw11_works.env (N : Nat) : EnvOK Try.prog (parquetlaw11_works.E N) := ⟨TyOK.nil, (TabOK.cons (classes_Number.ent_ok N) (TabOK.cons (classes_Hurwitz.ent_ok N) (TabOK.cons (classes_Check.ent_ok N) TabOK.nil)))⟩
theorem parquetlaw11_works.res_eq (N : Nat) : (parquetlaw11_works.E N).res = Try.f13.results.toList := by kernel_rfl
theorem parquetlaw11_works.spec (N : Nat) (r : Bool) (h : parquetlaw11_works.f N = some r) : FnSpec Try.prog 13 [] [] (.c (.bool r)) ([]) := by
  rw [← parquetlaw11_works.f_eq] at h
  refine (evFun_ok (parquetlaw11_works.env N) Try_mixed Try.func13 (by kernel_rfl : Try.f13.body = some parquetlaw11_works.body) (by kernel_rfl) (parquetlaw11_works.res_eq N) (by kernel_rfl) (by kernel_rfl) (Nat.le_of_ble_eq_true (by kernel_rfl)) (AllCut.of (l := []) (by kernel_rfl) AllCut.nil) h).of fun v bs' h1 => ?_
  unfold parquetlaw11_works.dec at h1; split at h1
  · cases h1; exact ⟨rfl, rfl⟩
  · cases h1
theorem parquetlaw11_works.ent_ok (N : Nat) : TabOK1 Try.prog 13 (parquetlaw11_works.ent N) := by
  intro args bs a enc h
  simp only [parquetlaw11_works.ent] at h
  split at h
  · rename_i hz; have h0 := Option.some.inj h; have h1 := congrArg Prod.fst h0; have h2 := congrArg Prod.snd h0; dsimp only at h1 h2; subst h2; exact FnSpec.of_freeze hz (parquetlaw11_works.spec N a h1)
  · cases h
/-! parquet/parquetlaw11.ClassLists: function 3 -/
noncomputable def parquetlaw11_ClassLists.l13 {R : Type} (N : Nat) : Nat → List Int → Int → Int → List Int → List Int → (List Int → List Int → Option R) → Option R
  | 0, _, _, _, _, _, _ => none
  | n + 1, x10, x11, x12, x13, x14, k0 =>
    bif decide (x12 < x11) then
      bif (decide (0 ≤ x12)) && (decide (x12 < (x13.length / 3 : Int))) then
        parquetlaw11_ClassLists.l13 N n x10 x11 (wi64 (x12 + 1)) (((x13.set (x12.toNat * 3) 77).set ((x12.toNat * 3) + 1) 0).set ((x12.toNat * 3) + 2) 0) x14 k0
      else none
    else
    k0 x10 x14
noncomputable def parquetlaw11_ClassLists.f (N : Nat) (a1 : Int) : Option (Bool) :=
  (classes_All.f N a1).bind fun r2 =>
  (classes_All.f N a1).bind fun r3 =>
  (classes_Number.f N a1).bind fun r4 =>
  (parquetref11_Check.f N a1).bind fun r5 =>
  (classes_Check.f N a1).bind fun r6 =>
  bif r6 != r5 then
    some false
  else
  bif r2.2 != r5 then
    some false
  else
  bif r3.2 != r5 then
    some false
  else
  bif r4.2 != r5 then
    some false
  else
  (parquetlaw11_works.f N).bind fun r7 =>
  bif !r7 then
    some false
  else
  bif r5 != 0 then
    bif (r2.1.length / 3 : Int) == 0 then
      bif (r3.1.length / 3 : Int) == 0 then
        some (r4.1 == 0)
      else
      some false
    else
    some false
  else
  (parquetref11_All.f N a1).bind fun r8 =>
  (parquetlaw11_same.f N r2.1 r8).bind fun r9 =>
  bif !r9 then
    some false
  else
  bif r4.1 != (r8.length / 3 : Int) then
    some false
  else
  parquetlaw11_ClassLists.l13 N N r8 (r2.1.length / 3 : Int) 0 r2.1 r3.1
    (fun y17 y18 =>
      (parquetlaw11_same.f N y18 y17).bind fun r19 =>
      some r19)
noncomputable def parquetlaw11_ClassLists.body : Code := (Try.f3.body).getD .skip
noncomputable def parquetlaw11_ClassLists.ty : List (Nat × TI) := [(2, ty2), (22, ty22), (33, ty33)]
noncomputable def parquetlaw11_ClassLists.h13 : Hint := ⟨[(3, .row .i64 3), (5, .row .i64 3), (10, .il .i64 3), (79, .any), (80, .any)], [(5, .row .i64 3), (10, .il .i64 3)]⟩
noncomputable def parquetlaw11_ClassLists.c13 (N : Nat) : Cut := ⟨fun vs H k => match vs, H with
  | [.sw 0 3, .sw 1 3, .il .i64 3 x10, .c (.int .i64 x11), .c (.int .i64 x12)], [.ints .i64 x13, .ints .i64 x14] => parquetlaw11_ClassLists.l13 N N x10 x11 x12 x13 x14 (fun x15 x16 => k (.exit 0) ⟨mkT parquetlaw11_ClassLists.h13.out [.sw 0 3, .il .i64 3 x15], [.ints .i64 x16]⟩)
  | _, _ => none⟩
noncomputable def parquetlaw11_ClassLists.E (N : Nat) : Env := { ty := lookN parquetlaw11_ClassLists.ty, tab := lookN [(9, classes_All.ent N), (10, classes_Number.ent N), (11, parquetref11_Check.ent N), (12, classes_Check.ent N), (13, parquetlaw11_works.ent N), (14, parquetref11_All.ent N), (15, parquetlaw11_same.ent N)], hint := lookN [(13, parquetlaw11_ClassLists.h13)], cut := lookN [(13, parquetlaw11_ClassLists.c13 N)], N := N, res := [.tmp 2], rsh := [.any], nb := 0, ntmps := 91, own := false }
noncomputable def parquetlaw11_ClassLists.b13 : Code := inner ((subLoops parquetlaw11_ClassLists.body).getD 0 .skip)
set_option maxRecDepth 100000 in
theorem parquetlaw11_ClassLists.l13_eq {R : Type} (N n : Nat) (x10 : List Int) (x11 : Int) (x12 : Int) (x13 : List Int) (x14 : List Int) (k : Ex → St → Option R) :
    evLoop 0 parquetlaw11_ClassLists.h13 (fun s k => evCode (parquetlaw11_ClassLists.E N) 387 parquetlaw11_ClassLists.b13 s k) n [.sw 0 3, .sw 1 3, .il .i64 3 x10, .c (.int .i64 x11), .c (.int .i64 x12)] [.ints .i64 x13, .ints .i64 x14] k = parquetlaw11_ClassLists.l13 N n x10 x11 x12 x13 x14 (fun x15 x16 => k (.exit 0) ⟨mkT parquetlaw11_ClassLists.h13.out [.sw 0 3, .il .i64 3 x15], [.ints .i64 x16]⟩) := by
  induction n generalizing x10 x11 x12 x13 x14 with
  | zero => kernel_rfl
  | succ n ih =>
    simp only [parquetlaw11_ClassLists.l13, ← ih]
    kernel_rfl
noncomputable def parquetlaw11_ClassLists.dec (v : V) (bs : List Blk) : Option (Bool) := match v, bs with
  | .c (.bool z0), [] => some z0
  | _, _ => none
set_option maxRecDepth 100000 in
theorem parquetlaw11_ClassLists.f_eq (N : Nat) (a1 : Int) :
    evFun (parquetlaw11_ClassLists.E N) parquetlaw11_ClassLists.body [.c (.int .i64 a1)] [] parquetlaw11_ClassLists.dec = parquetlaw11_ClassLists.f N a1 := by kernel_rfl
noncomputable def parquetlaw11_ClassLists.ent (N : Nat) : Entry := { A := Bool, fresh := 0, imm := [true], dec := fun args bs => match freezeL 0 (fun _ => .dead) [.any] args, bs with
  | some [.c (.int .i64 a1)], [] => some (parquetlaw11_ClassLists.f N a1, fun r => .one (.c (.bool r)) [])
  | _, _ => none }
theorem parquetlaw11_ClassLists.env (N : Nat) : EnvOK Try.prog (parquetlaw11_ClassLists.E N) := ⟨(TyOK.cons ty2_ok (TyOK.cons ty22_ok (TyOK.cons ty33_ok TyOK.nil))), (TabOK.cons (classes_All.ent_ok N) (TabOK.cons (classes_Number.ent_ok N) (TabOK.cons (parquetref11_Check.ent_ok N) (TabOK.cons (classes_Check.ent_ok N) (TabOK.cons (parquetlaw11_works.ent_ok N) (TabOK.cons (parquetref11_All.ent_ok N) (TabOK.cons (parquetlaw11_same.ent_ok N) TabOK.nil)))))))⟩
theorem parquetlaw11_ClassLists.res_eq (N : Nat) : (parquetlaw11_ClassLists.E N).res = Try.f3.results.toList := by kernel_rfl
theorem parquetlaw11_ClassLists.k13 (N : Nat) : CutOK Try.prog Try.f3 (parquetlaw11_ClassLists.E N) (.loop parquetlaw11_ClassLists.b13) := by
  intro e hd he hh R vs H k r h
  have e1 : (parquetlaw11_ClassLists.E N).cut (loopKey parquetlaw11_ClassLists.b13) = some (parquetlaw11_ClassLists.c13 N) := by kernel_rfl
  have e2 : (parquetlaw11_ClassLists.E N).hint (loopKey parquetlaw11_ClassLists.b13) = some parquetlaw11_ClassLists.h13 := by kernel_rfl
  rw [e1] at he; rw [e2] at hh; cases he; cases hh
  unfold parquetlaw11_ClassLists.c13 at h; dsimp only at h
  split at h
  · rw [← parquetlaw11_ClassLists.l13_eq] at h
    exact loop_ok (evCode_ok (parquetlaw11_ClassLists.env N) Try_mixed (parquetlaw11_ClassLists.res_eq N) 387 parquetlaw11_ClassLists.b13 (AllCut.of (l := []) (by kernel_rfl) AllCut.nil)) h
  · cases h
theorem parquetlaw11_ClassLists.spec (N : Nat) (a1 : Int) (r : Bool) (h : parquetlaw11_ClassLists.f N a1 = some r) : FnSpec Try.prog 3 [.c (.int .i64 a1)] [] (.c (.bool r)) ([]) := by
  rw [← parquetlaw11_ClassLists.f_eq] at h
  refine (evFun_ok (parquetlaw11_ClassLists.env N) Try_mixed Try.func3 (by kernel_rfl : Try.f3.body = some parquetlaw11_ClassLists.body) (by kernel_rfl) (parquetlaw11_ClassLists.res_eq N) (by kernel_rfl) (by kernel_rfl) (Nat.le_of_ble_eq_true (by kernel_rfl)) (AllCut.of (l := [(.loop (inner ((subLoops parquetlaw11_ClassLists.body).getD 0 .skip)))]) (by kernel_rfl) (AllCut.cons (parquetlaw11_ClassLists.k13 N) AllCut.nil)) h).of fun v bs' h1 => ?_
  unfold parquetlaw11_ClassLists.dec at h1; split at h1
  · cases h1; exact ⟨rfl, rfl⟩
  · cases h1
theorem parquetlaw11_ClassLists.ent_ok (N : Nat) : TabOK1 Try.prog 3 (parquetlaw11_ClassLists.ent N) := by
  intro args bs a enc h
  simp only [parquetlaw11_ClassLists.ent] at h
  split at h
  · rename_i hz; have h0 := Option.some.inj h; have h1 := congrArg Prod.fst h0; have h2 := congrArg Prod.snd h0; dsimp only at h1 h2; subst h2; exact FnSpec.of_freeze hz (parquetlaw11_ClassLists.spec N _ a h1)
  · cases h
/-! parquet/parquetlaw11.ClassWeighs: function 4 -/
noncomputable def parquetlaw11_ClassWeighs.f (N : Nat) (a1 : Int) : Option (Bool) :=
  (classes_Hurwitz.f N a1).bind fun r2 =>
  bif decide (a1 < 0) then
    bif r2.2 == 2 then
      bif r2.1 == 0 then
        (parquetlaw11_works.f N).bind fun r3 =>
        some r3
      else
      some false
    else
    some false
  else
  bif decide (a1 > 65536) then
    bif r2.2 == 2 then
      bif r2.1 == 0 then
        (parquetlaw11_works.f N).bind fun r4 =>
        some r4
      else
      some false
    else
    some false
  else
  bif r2.2 == 0 then
    (parquetref11_Hurwitz.f N a1).bind fun r5 =>
    bif r2.1 == r5 then
      (parquetlaw11_works.f N).bind fun r6 =>
      some r6
    else
    some false
  else
  some false
noncomputable def parquetlaw11_ClassWeighs.body : Code := (Try.f4.body).getD .skip
noncomputable def parquetlaw11_ClassWeighs.ty : List (Nat × TI) := []
noncomputable def parquetlaw11_ClassWeighs.E (N : Nat) : Env := { ty := lookN parquetlaw11_ClassWeighs.ty, tab := lookN [(16, classes_Hurwitz.ent N), (13, parquetlaw11_works.ent N), (17, parquetref11_Hurwitz.ent N)], hint := lookN [], cut := lookN [], N := N, res := [.tmp 2], rsh := [.any], nb := 0, ntmps := 36, own := false }
noncomputable def parquetlaw11_ClassWeighs.dec (v : V) (bs : List Blk) : Option (Bool) := match v, bs with
  | .c (.bool z0), [] => some z0
  | _, _ => none
set_option maxRecDepth 100000 in
theorem parquetlaw11_ClassWeighs.f_eq (N : Nat) (a1 : Int) :
    evFun (parquetlaw11_ClassWeighs.E N) parquetlaw11_ClassWeighs.body [.c (.int .i64 a1)] [] parquetlaw11_ClassWeighs.dec = parquetlaw11_ClassWeighs.f N a1 := by kernel_rfl
noncomputable def parquetlaw11_ClassWeighs.ent (N : Nat) : Entry := { A := Bool, fresh := 0, imm := [true], dec := fun args bs => match freezeL 0 (fun _ => .dead) [.any] args, bs with
  | some [.c (.int .i64 a1)], [] => some (parquetlaw11_ClassWeighs.f N a1, fun r => .one (.c (.bool r)) [])
  | _, _ => none }
theorem parquetlaw11_ClassWeighs.env (N : Nat) : EnvOK Try.prog (parquetlaw11_ClassWeighs.E N) := ⟨TyOK.nil, (TabOK.cons (classes_Hurwitz.ent_ok N) (TabOK.cons (parquetlaw11_works.ent_ok N) (TabOK.cons (parquetref11_Hurwitz.ent_ok N) TabOK.nil)))⟩
theorem parquetlaw11_ClassWeighs.res_eq (N : Nat) : (parquetlaw11_ClassWeighs.E N).res = Try.f4.results.toList := by kernel_rfl
theorem parquetlaw11_ClassWeighs.spec (N : Nat) (a1 : Int) (r : Bool) (h : parquetlaw11_ClassWeighs.f N a1 = some r) : FnSpec Try.prog 4 [.c (.int .i64 a1)] [] (.c (.bool r)) ([]) := by
  rw [← parquetlaw11_ClassWeighs.f_eq] at h
  refine (evFun_ok (parquetlaw11_ClassWeighs.env N) Try_mixed Try.func4 (by kernel_rfl : Try.f4.body = some parquetlaw11_ClassWeighs.body) (by kernel_rfl) (parquetlaw11_ClassWeighs.res_eq N) (by kernel_rfl) (by kernel_rfl) (Nat.le_of_ble_eq_true (by kernel_rfl)) (AllCut.of (l := []) (by kernel_rfl) AllCut.nil) h).of fun v bs' h1 => ?_
  unfold parquetlaw11_ClassWeighs.dec at h1; split at h1
  · cases h1; exact ⟨rfl, rfl⟩
  · cases h1
theorem parquetlaw11_ClassWeighs.ent_ok (N : Nat) : TabOK1 Try.prog 4 (parquetlaw11_ClassWeighs.ent N) := by
  intro args bs a enc h
  simp only [parquetlaw11_ClassWeighs.ent] at h
  split at h
  · rename_i hz; have h0 := Option.some.inj h; have h1 := congrArg Prod.fst h0; have h2 := congrArg Prod.snd h0; dsimp only at h1 h2; subst h2; exact FnSpec.of_freeze hz (parquetlaw11_ClassWeighs.spec N _ a h1)
  · cases h
/-! parquet/parquetlaw11.ClassRelation: function 5 -/
noncomputable def parquetlaw11_ClassRelation.l5 {R : Type} (N : Nat) : Nat → Int → Int → Int → (Int → Int → Option R) → (Bool → Option R) → Option R
  | 0, _, _, _, _, _ => none
  | n + 1, x4, x5, x6, k0, kr =>
    bif decide ((wi64 (x6 * x6)) ≤ (wi64 (4 * x4))) then
      (classes_Hurwitz.f N (wi64 ((wi64 (4 * x4)) - (wi64 (x6 * x6))))).bind fun r7 =>
      bif r7.2 != 0 then
        kr false
      else
      bif decide (x6 > 0) then
        parquetlaw11_ClassRelation.l5 N n x4 (wi64 ((wi64 (x5 + r7.1)) + r7.1)) (wi64 (x6 + 1)) k0 kr
      else
      parquetlaw11_ClassRelation.l5 N n x4 (wi64 (x5 + r7.1)) (wi64 (x6 + 1)) k0 kr
    else
    k0 x4 x5
noncomputable def parquetlaw11_ClassRelation.l14 {R : Type} (N : Nat) : Nat → Int → Int → Int → (Int → Option R) → Option R
  | 0, _, _, _, _ => none
  | n + 1, x13, x14, x15, k2 =>
    bif decide (x15 ≤ x13) then
      bif !(x15 == 0) then
        bif (Int.tmod x13 x15) == 0 then
          bif !(x15 == 0) then
            parquetlaw11_ClassRelation.l14 N n x13 (wi64 (x14 - (wi64 ((wi64 (24 * x15)) - (wi64 (12 * (mn2 x15 (wi64 (Int.tdiv x13 x15))))))))) (wi64 (x15 + 1)) k2
          else none
        else
        parquetlaw11_ClassRelation.l14 N n x13 x14 (wi64 (x15 + 1)) k2
      else none
    else
    k2 x14
noncomputable def parquetlaw11_ClassRelation.f (N : Nat) (a1 : Int) : Option (Bool) :=
  bif decide (a1 < 1) then
    (parquetlaw11_works.f N).bind fun r2 =>
    some r2
  else
  bif decide (a1 > 16384) then
    (parquetlaw11_works.f N).bind fun r3 =>
    some r3
  else
  parquetlaw11_ClassRelation.l5 N N a1 0 0
    (fun y11 y12 =>
      parquetlaw11_ClassRelation.l14 N N y11 y12 1
        (fun y17 =>
          bif y17 == 0 then
            (parquetlaw11_works.f N).bind fun r18 =>
            some r18
          else
          some false))
    (fun y19 =>
      some y19)
noncomputable def parquetlaw11_ClassRelation.body : Code := (Try.f5.body).getD .skip
noncomputable def parquetlaw11_ClassRelation.ty : List (Nat × TI) := []
noncomputable def parquetlaw11_ClassRelation.h5 : Hint := ⟨[(0, .any), (3, .any), (4, .any)], [(0, .any), (3, .any)]⟩
noncomputable def parquetlaw11_ClassRelation.h14 : Hint := ⟨[(0, .any), (3, .any), (7, .any)], [(3, .any)]⟩
noncomputable def parquetlaw11_ClassRelation.c5 (N : Nat) : Cut := ⟨fun vs H k => match vs, H with
  | [.c (.int .i64 x4), .c (.int .i64 x5), .c (.int .i64 x6)], [] => parquetlaw11_ClassRelation.l5 N N x4 x5 x6 (fun x9 x10 => k (.exit 0) ⟨mkT parquetlaw11_ClassRelation.h5.out [.c (.int .i64 x9), .c (.int .i64 x10)], []⟩) (fun x8 => k (.ret (.c (.bool x8)) []) .nil)
  | _, _ => none⟩
noncomputable def parquetlaw11_ClassRelation.c14 (N : Nat) : Cut := ⟨fun vs H k => match vs, H with
  | [.c (.int .i64 x13), .c (.int .i64 x14), .c (.int .i64 x15)], [] => parquetlaw11_ClassRelation.l14 N N x13 x14 x15 (fun x16 => k (.exit 2) ⟨mkT parquetlaw11_ClassRelation.h14.out [.c (.int .i64 x16)], []⟩)
  | _, _ => none⟩
noncomputable def parquetlaw11_ClassRelation.E (N : Nat) : Env := { ty := lookN parquetlaw11_ClassRelation.ty, tab := lookN [(13, parquetlaw11_works.ent N), (16, classes_Hurwitz.ent N)], hint := lookN [(5, parquetlaw11_ClassRelation.h5), (14, parquetlaw11_ClassRelation.h14)], cut := lookN [(5, parquetlaw11_ClassRelation.c5 N), (14, parquetlaw11_ClassRelation.c14 N)], N := N, res := [.tmp 2], rsh := [.any], nb := 0, ntmps := 68, own := false }
noncomputable def parquetlaw11_ClassRelation.b5 : Code := inner ((subLoops parquetlaw11_ClassRelation.body).getD 0 .skip)
set_option maxRecDepth 100000 in
theorem parquetlaw11_ClassRelation.l5_eq {R : Type} (N n : Nat) (x4 : Int) (x5 : Int) (x6 : Int) (k : Ex → St → Option R) :
    evLoop 0 parquetlaw11_ClassRelation.h5 (fun s k => evCode (parquetlaw11_ClassRelation.E N) 393 parquetlaw11_ClassRelation.b5 s k) n [.c (.int .i64 x4), .c (.int .i64 x5), .c (.int .i64 x6)] [] k = parquetlaw11_ClassRelation.l5 N n x4 x5 x6 (fun x9 x10 => k (.exit 0) ⟨mkT parquetlaw11_ClassRelation.h5.out [.c (.int .i64 x9), .c (.int .i64 x10)], []⟩) (fun x8 => k (.ret (.c (.bool x8)) []) .nil) := by
  induction n generalizing x4 x5 x6 with
  | zero => kernel_rfl
  | succ n ih =>
    simp only [parquetlaw11_ClassRelation.l5, ← ih]
    kernel_rfl
noncomputable def parquetlaw11_ClassRelation.b14 : Code := inner ((subLoops parquetlaw11_ClassRelation.body).getD 1 .skip)
set_option maxRecDepth 100000 in
theorem parquetlaw11_ClassRelation.l14_eq {R : Type} (N n : Nat) (x13 : Int) (x14 : Int) (x15 : Int) (k : Ex → St → Option R) :
    evLoop 0 parquetlaw11_ClassRelation.h14 (fun s k => evCode (parquetlaw11_ClassRelation.E N) 392 parquetlaw11_ClassRelation.b14 s k) n [.c (.int .i64 x13), .c (.int .i64 x14), .c (.int .i64 x15)] [] k = parquetlaw11_ClassRelation.l14 N n x13 x14 x15 (fun x16 => k (.exit 2) ⟨mkT parquetlaw11_ClassRelation.h14.out [.c (.int .i64 x16)], []⟩) := by
  induction n generalizing x13 x14 x15 with
  | zero => kernel_rfl
  | succ n ih =>
    simp only [parquetlaw11_ClassRelation.l14, ← ih]
    kernel_rfl
noncomputable def parquetlaw11_ClassRelation.dec (v : V) (bs : List Blk) : Option (Bool) := match v, bs with
  | .c (.bool z0), [] => some z0
  | _, _ => none
set_option maxRecDepth 100000 in
theorem parquetlaw11_ClassRelation.f_eq (N : Nat) (a1 : Int) :
    evFun (parquetlaw11_ClassRelation.E N) parquetlaw11_ClassRelation.body [.c (.int .i64 a1)] [] parquetlaw11_ClassRelation.dec = parquetlaw11_ClassRelation.f N a1 := by kernel_rfl
noncomputable def parquetlaw11_ClassRelation.ent (N : Nat) : Entry := { A := Bool, fresh := 0, imm := [true], dec := fun args bs => match freezeL 0 (fun _ => .dead) [.any] args, bs with
  | some [.c (.int .i64 a1)], [] => some (parquetlaw11_ClassRelation.f N a1, fun r => .one (.c (.bool r)) [])
  | _, _ => none }
theorem parquetlaw11_ClassRelation.env (N : Nat) : EnvOK Try.prog (parquetlaw11_ClassRelation.E N) := ⟨TyOK.nil, (TabOK.cons (parquetlaw11_works.ent_ok N) (TabOK.cons (classes_Hurwitz.ent_ok N) TabOK.nil))⟩
theorem parquetlaw11_ClassRelation.res_eq (N : Nat) : (parquetlaw11_ClassRelation.E N).res = Try.f5.results.toList := by kernel_rfl
theorem parquetlaw11_ClassRelation.k14 (N : Nat) : CutOK Try.prog Try.f5 (parquetlaw11_ClassRelation.E N) (.loop parquetlaw11_ClassRelation.b14) := by
  intro e hd he hh R vs H k r h
  have e1 : (parquetlaw11_ClassRelation.E N).cut (loopKey parquetlaw11_ClassRelation.b14) = some (parquetlaw11_ClassRelation.c14 N) := by kernel_rfl
  have e2 : (parquetlaw11_ClassRelation.E N).hint (loopKey parquetlaw11_ClassRelation.b14) = some parquetlaw11_ClassRelation.h14 := by kernel_rfl
  rw [e1] at he; rw [e2] at hh; cases he; cases hh
  unfold parquetlaw11_ClassRelation.c14 at h; dsimp only at h
  split at h
  · rw [← parquetlaw11_ClassRelation.l14_eq] at h
    exact loop_ok (evCode_ok (parquetlaw11_ClassRelation.env N) Try_mixed (parquetlaw11_ClassRelation.res_eq N) 392 parquetlaw11_ClassRelation.b14 (AllCut.of (l := []) (by kernel_rfl) AllCut.nil)) h
  · cases h
theorem parquetlaw11_ClassRelation.k5 (N : Nat) : CutOK Try.prog Try.f5 (parquetlaw11_ClassRelation.E N) (.loop parquetlaw11_ClassRelation.b5) := by
  intro e hd he hh R vs H k r h
  have e1 : (parquetlaw11_ClassRelation.E N).cut (loopKey parquetlaw11_ClassRelation.b5) = some (parquetlaw11_ClassRelation.c5 N) := by kernel_rfl
  have e2 : (parquetlaw11_ClassRelation.E N).hint (loopKey parquetlaw11_ClassRelation.b5) = some parquetlaw11_ClassRelation.h5 := by kernel_rfl
  rw [e1] at he; rw [e2] at hh; cases he; cases hh
  unfold parquetlaw11_ClassRelation.c5 at h; dsimp only at h
  split at h
  · rw [← parquetlaw11_ClassRelation.l5_eq] at h
    exact loop_ok (evCode_ok (parquetlaw11_ClassRelation.env N) Try_mixed (parquetlaw11_ClassRelation.res_eq N) 393 parquetlaw11_ClassRelation.b5 (AllCut.of (l := []) (by kernel_rfl) AllCut.nil)) h
  · cases h
theorem parquetlaw11_ClassRelation.spec (N : Nat) (a1 : Int) (r : Bool) (h : parquetlaw11_ClassRelation.f N a1 = some r) : FnSpec Try.prog 5 [.c (.int .i64 a1)] [] (.c (.bool r)) ([]) := by
  rw [← parquetlaw11_ClassRelation.f_eq] at h
  refine (evFun_ok (parquetlaw11_ClassRelation.env N) Try_mixed Try.func5 (by kernel_rfl : Try.f5.body = some parquetlaw11_ClassRelation.body) (by kernel_rfl) (parquetlaw11_ClassRelation.res_eq N) (by kernel_rfl) (by kernel_rfl) (Nat.le_of_ble_eq_true (by kernel_rfl)) (AllCut.of (l := [(.loop (inner ((subLoops parquetlaw11_ClassRelation.body).getD 0 .skip))), (.loop (inner ((subLoops parquetlaw11_ClassRelation.body).getD 1 .skip)))]) (by kernel_rfl) (AllCut.cons (parquetlaw11_ClassRelation.k5 N) (AllCut.cons (parquetlaw11_ClassRelation.k14 N) AllCut.nil))) h).of fun v bs' h1 => ?_
  unfold parquetlaw11_ClassRelation.dec at h1; split at h1
  · cases h1; exact ⟨rfl, rfl⟩
  · cases h1
theorem parquetlaw11_ClassRelation.ent_ok (N : Nat) : TabOK1 Try.prog 5 (parquetlaw11_ClassRelation.ent N) := by
  intro args bs a enc h
  simp only [parquetlaw11_ClassRelation.ent] at h
  split at h
  · rename_i hz; have h0 := Option.some.inj h; have h1 := congrArg Prod.fst h0; have h2 := congrArg Prod.snd h0; dsimp only at h1 h2; subst h2; exact FnSpec.of_freeze hz (parquetlaw11_ClassRelation.spec N _ a h1)
  · cases h
/-! parquet/parquetlaw11.ClassPlaces: function 6 -/
noncomputable def parquetlaw11_ClassPlaces.f (N : Nat) (a1 : Int) (a2 : Int) (a3 : Int) : Option (Bool) :=
  (classes_Place.f N a1 a2 a3).bind fun r4 =>
  (parquetref08_Reduce.f N a1 a2 a3).bind fun r5 =>
  bif r5.2.2.2.2.2.2.2 == 0 then
    (parquetref08_Disc.f N a1 a2 a3).bind fun r6 =>
    bif decide (r6 < (-65536)) then
      bif r4.2 == 80 then
        bif r4.1 == 0 then
          (parquetlaw11_works.f N).bind fun r7 =>
          some r7
        else
        some false
      else
      some false
    else
    bif r5.2.2.2.2.2.2.2 == 0 then
      (parquetref11_Content.f N r5.1 r5.2.1 r5.2.2.1).bind fun r8 =>
      bif r8 != 1 then
        bif r4.2 == 81 then
          bif r4.1 == 0 then
            (parquetlaw11_works.f N).bind fun r9 =>
            some r9
          else
          some false
        else
        some false
      else
      bif r5.2.2.2.2.2.2.2 != 0 then
        bif r4.2 == r5.2.2.2.2.2.2.2 then
          bif r4.1 == 0 then
            (parquetlaw11_works.f N).bind fun r10 =>
            some r10
          else
          some false
        else
        some false
      else
      (parquetref08_Disc.f N a1 a2 a3).bind fun r11 =>
      (parquetref11_All.f N r11).bind fun r12 =>
      bif r4.2 == 0 then
        bif decide (r4.1 ≥ 0) then
          bif decide (r4.1 < (r12.length / 3 : Int)) then
            bif (decide (0 ≤ r4.1)) && (decide (r4.1 < (r12.length / 3 : Int))) then
              bif ((r12.getD (r4.1.toNat * 3) 0) == r5.1) && (((r12.getD ((r4.1.toNat * 3) + 1) 0) == r5.2.1) && ((r12.getD ((r4.1.toNat * 3) + 2) 0) == r5.2.2.1)) then
                (parquetlaw11_works.f N).bind fun r13 =>
                some r13
              else
              some false
            else none
          else
          some false
        else
        some false
      else
      some false
    else
    bif r5.2.2.2.2.2.2.2 != 0 then
      bif r4.2 == r5.2.2.2.2.2.2.2 then
        bif r4.1 == 0 then
          (parquetlaw11_works.f N).bind fun r14 =>
          some r14
        else
        some false
      else
      some false
    else
    (parquetref08_Disc.f N a1 a2 a3).bind fun r15 =>
    (parquetref11_All.f N r15).bind fun r16 =>
    bif r4.2 == 0 then
      bif decide (r4.1 ≥ 0) then
        bif decide (r4.1 < (r16.length / 3 : Int)) then
          bif (decide (0 ≤ r4.1)) && (decide (r4.1 < (r16.length / 3 : Int))) then
            bif ((r16.getD (r4.1.toNat * 3) 0) == r5.1) && (((r16.getD ((r4.1.toNat * 3) + 1) 0) == r5.2.1) && ((r16.getD ((r4.1.toNat * 3) + 2) 0) == r5.2.2.1)) then
              (parquetlaw11_works.f N).bind fun r17 =>
              some r17
            else
            some false
          else none
        else
        some false
      else
      some false
    else
    some false
  else
  bif r5.2.2.2.2.2.2.2 == 0 then
    (parquetref11_Content.f N r5.1 r5.2.1 r5.2.2.1).bind fun r18 =>
    bif r18 != 1 then
      bif r4.2 == 81 then
        bif r4.1 == 0 then
          (parquetlaw11_works.f N).bind fun r19 =>
          some r19
        else
        some false
      else
      some false
    else
    bif r5.2.2.2.2.2.2.2 != 0 then
      bif r4.2 == r5.2.2.2.2.2.2.2 then
        bif r4.1 == 0 then
          (parquetlaw11_works.f N).bind fun r20 =>
          some r20
        else
        some false
      else
      some false
    else
    (parquetref08_Disc.f N a1 a2 a3).bind fun r21 =>
    (parquetref11_All.f N r21).bind fun r22 =>
    bif r4.2 == 0 then
      bif decide (r4.1 ≥ 0) then
        bif decide (r4.1 < (r22.length / 3 : Int)) then
          bif (decide (0 ≤ r4.1)) && (decide (r4.1 < (r22.length / 3 : Int))) then
            bif ((r22.getD (r4.1.toNat * 3) 0) == r5.1) && (((r22.getD ((r4.1.toNat * 3) + 1) 0) == r5.2.1) && ((r22.getD ((r4.1.toNat * 3) + 2) 0) == r5.2.2.1)) then
              (parquetlaw11_works.f N).bind fun r23 =>
              some r23
            else
            some false
          else none
        else
        some false
      else
      some false
    else
    some false
  else
  bif r5.2.2.2.2.2.2.2 != 0 then
    bif r4.2 == r5.2.2.2.2.2.2.2 then
      bif r4.1 == 0 then
        (parquetlaw11_works.f N).bind fun r24 =>
        some r24
      else
      some false
    else
    some false
  else
  (parquetref08_Disc.f N a1 a2 a3).bind fun r25 =>
  (parquetref11_All.f N r25).bind fun r26 =>
  bif r4.2 == 0 then
    bif decide (r4.1 ≥ 0) then
      bif decide (r4.1 < (r26.length / 3 : Int)) then
        bif (decide (0 ≤ r4.1)) && (decide (r4.1 < (r26.length / 3 : Int))) then
          bif ((r26.getD (r4.1.toNat * 3) 0) == r5.1) && (((r26.getD ((r4.1.toNat * 3) + 1) 0) == r5.2.1) && ((r26.getD ((r4.1.toNat * 3) + 2) 0) == r5.2.2.1)) then
            (parquetlaw11_works.f N).bind fun r27 =>
            some r27
          else
          some false
        else none
      else
      some false
    else
    some false
  else
  some false
noncomputable def parquetlaw11_ClassPlaces.body : Code := (Try.f6.body).getD .skip
noncomputable def parquetlaw11_ClassPlaces.ty : List (Nat × TI) := [(2, ty2), (22, ty22), (33, ty33), (40, ty40)]
noncomputable def parquetlaw11_ClassPlaces.E (N : Nat) : Env := { ty := lookN parquetlaw11_ClassPlaces.ty, tab := lookN [(18, classes_Place.ent N), (19, parquetref08_Reduce.ent N), (20, parquetref08_Disc.ent N), (13, parquetlaw11_works.ent N), (21, parquetref11_Content.ent N), (14, parquetref11_All.ent N)], hint := lookN [], cut := lookN [], N := N, res := [.tmp 2], rsh := [.any], nb := 0, ntmps := 72, own := false }
noncomputable def parquetlaw11_ClassPlaces.dec (v : V) (bs : List Blk) : Option (Bool) := match v, bs with
  | .c (.bool z0), [] => some z0
  | _, _ => none
set_option maxRecDepth 100000 in
theorem parquetlaw11_ClassPlaces.f_eq (N : Nat) (a1 : Int) (a2 : Int) (a3 : Int) :
    evFun (parquetlaw11_ClassPlaces.E N) parquetlaw11_ClassPlaces.body [.agg [.c (.int .i64 a1), .c (.int .i64 a2), .c (.int .i64 a3)]] [] parquetlaw11_ClassPlaces.dec = parquetlaw11_ClassPlaces.f N a1 a2 a3 := by kernel_rfl
noncomputable def parquetlaw11_ClassPlaces.ent (N : Nat) : Entry := { A := Bool, fresh := 0, imm := [true], dec := fun args bs => match freezeL 0 (fun _ => .dead) [.recd [.any, .any, .any]] args, bs with
  | some [.agg [.c (.int .i64 a1), .c (.int .i64 a2), .c (.int .i64 a3)]], [] => some (parquetlaw11_ClassPlaces.f N a1 a2 a3, fun r => .one (.c (.bool r)) [])
  | _, _ => none }
theorem parquetlaw11_ClassPlaces.env (N : Nat) : EnvOK Try.prog (parquetlaw11_ClassPlaces.E N) := ⟨(TyOK.cons ty2_ok (TyOK.cons ty22_ok (TyOK.cons ty33_ok (TyOK.cons ty40_ok TyOK.nil)))), (TabOK.cons (classes_Place.ent_ok N) (TabOK.cons (parquetref08_Reduce.ent_ok N) (TabOK.cons (parquetref08_Disc.ent_ok N) (TabOK.cons (parquetlaw11_works.ent_ok N) (TabOK.cons (parquetref11_Content.ent_ok N) (TabOK.cons (parquetref11_All.ent_ok N) TabOK.nil))))))⟩
theorem parquetlaw11_ClassPlaces.res_eq (N : Nat) : (parquetlaw11_ClassPlaces.E N).res = Try.f6.results.toList := by kernel_rfl
theorem parquetlaw11_ClassPlaces.spec (N : Nat) (a1 : Int) (a2 : Int) (a3 : Int) (r : Bool) (h : parquetlaw11_ClassPlaces.f N a1 a2 a3 = some r) : FnSpec Try.prog 6 [.agg [.c (.int .i64 a1), .c (.int .i64 a2), .c (.int .i64 a3)]] [] (.c (.bool r)) ([]) := by
  rw [← parquetlaw11_ClassPlaces.f_eq] at h
  refine (evFun_ok (parquetlaw11_ClassPlaces.env N) Try_mixed Try.func6 (by kernel_rfl : Try.f6.body = some parquetlaw11_ClassPlaces.body) (by kernel_rfl) (parquetlaw11_ClassPlaces.res_eq N) (by kernel_rfl) (by kernel_rfl) (Nat.le_of_ble_eq_true (by kernel_rfl)) (AllCut.of (l := []) (by kernel_rfl) AllCut.nil) h).of fun v bs' h1 => ?_
  unfold parquetlaw11_ClassPlaces.dec at h1; split at h1
  · cases h1; exact ⟨rfl, rfl⟩
  · cases h1
theorem parquetlaw11_ClassPlaces.ent_ok (N : Nat) : TabOK1 Try.prog 6 (parquetlaw11_ClassPlaces.ent N) := by
  intro args bs a enc h
  simp only [parquetlaw11_ClassPlaces.ent] at h
  split at h
  · rename_i hz; have h0 := Option.some.inj h; have h1 := congrArg Prod.fst h0; have h2 := congrArg Prod.snd h0; dsimp only at h1 h2; subst h2; exact FnSpec.of_freeze hz (parquetlaw11_ClassPlaces.spec N _ _ _ a h1)
  · cases h
/-! parquet/parquetlaw11.ClassKnown: function 7 -/
noncomputable def parquetlaw11_ClassKnown.f (N : Nat) : Option (Bool) :=
  (classes_Number.f N (-3)).bind fun r1 =>
  bif r1.1 != 1 then
    some false
  else
  bif r1.2 != 0 then
    some false
  else
  (classes_Number.f N (-4)).bind fun r2 =>
  bif r2.1 != 1 then
    some false
  else
  bif r2.2 != 0 then
    some false
  else
  (classes_Number.f N (-7)).bind fun r3 =>
  bif r3.1 != 1 then
    some false
  else
  bif r3.2 != 0 then
    some false
  else
  (classes_Number.f N (-8)).bind fun r4 =>
  bif r4.1 != 1 then
    some false
  else
  bif r4.2 != 0 then
    some false
  else
  (classes_Number.f N (-11)).bind fun r5 =>
  bif r5.1 != 1 then
    some false
  else
  bif r5.2 != 0 then
    some false
  else
  (classes_Number.f N (-19)).bind fun r6 =>
  bif r6.1 != 1 then
    some false
  else
  bif r6.2 != 0 then
    some false
  else
  (classes_Number.f N (-43)).bind fun r7 =>
  bif r7.1 != 1 then
    some false
  else
  bif r7.2 != 0 then
    some false
  else
  (classes_Number.f N (-67)).bind fun r8 =>
  bif r8.1 != 1 then
    some false
  else
  bif r8.2 != 0 then
    some false
  else
  (classes_Number.f N (-163)).bind fun r9 =>
  bif r9.1 != 1 then
    some false
  else
  bif r9.2 != 0 then
    some false
  else
  (classes_All.f N (-23)).bind fun r10 =>
  (classes_Hurwitz.f N 0).bind fun r11 =>
  bif r11.1 != (-1) then
    some false
  else
  bif r11.2 != 0 then
    some false
  else
  (classes_Hurwitz.f N 1).bind fun r12 =>
  bif r12.1 != 0 then
    some false
  else
  bif r12.2 != 0 then
    some false
  else
  (classes_Hurwitz.f N 2).bind fun r13 =>
  bif r13.1 != 0 then
    some false
  else
  bif r13.2 != 0 then
    some false
  else
  (classes_Hurwitz.f N 3).bind fun r14 =>
  bif r14.1 != 4 then
    some false
  else
  bif r14.2 != 0 then
    some false
  else
  (classes_Hurwitz.f N 4).bind fun r15 =>
  bif r15.1 != 6 then
    some false
  else
  bif r15.2 != 0 then
    some false
  else
  (classes_Hurwitz.f N 5).bind fun r16 =>
  bif r16.1 != 0 then
    some false
  else
  bif r16.2 != 0 then
    some false
  else
  (classes_Hurwitz.f N 6).bind fun r17 =>
  bif r17.1 != 0 then
    some false
  else
  bif r17.2 != 0 then
    some false
  else
  (classes_Hurwitz.f N 7).bind fun r18 =>
  bif r18.1 != 12 then
    some false
  else
  bif r18.2 != 0 then
    some false
  else
  (classes_Hurwitz.f N 8).bind fun r19 =>
  bif r19.1 != 12 then
    some false
  else
  bif r19.2 != 0 then
    some false
  else
  (classes_Hurwitz.f N 9).bind fun r20 =>
  bif r20.1 != 0 then
    some false
  else
  bif r20.2 != 0 then
    some false
  else
  (classes_Hurwitz.f N 10).bind fun r21 =>
  bif r21.1 != 0 then
    some false
  else
  bif r21.2 != 0 then
    some false
  else
  (classes_Hurwitz.f N 11).bind fun r22 =>
  bif r22.1 != 12 then
    some false
  else
  bif r22.2 != 0 then
    some false
  else
  (classes_Hurwitz.f N 12).bind fun r23 =>
  bif r23.1 != 16 then
    some false
  else
  bif r23.2 != 0 then
    some false
  else
  (classes_Hurwitz.f N 13).bind fun r24 =>
  bif r24.1 != 0 then
    some false
  else
  bif r24.2 != 0 then
    some false
  else
  (classes_Hurwitz.f N 14).bind fun r25 =>
  bif r25.1 != 0 then
    some false
  else
  bif r25.2 != 0 then
    some false
  else
  (classes_Hurwitz.f N 15).bind fun r26 =>
  bif r26.1 != 24 then
    some false
  else
  bif r26.2 != 0 then
    some false
  else
  (classes_Hurwitz.f N 16).bind fun r27 =>
  bif r27.1 != 18 then
    some false
  else
  bif r27.2 != 0 then
    some false
  else
  (classes_Hurwitz.f N (-1)).bind fun r28 =>
  (classes_Place.f N 3 1 2).bind fun r29 =>
  bif r10.2 == 0 then
    bif (r10.1.length / 3 : Int) == 3 then
      bif decide (0 < (r10.1.length / 3 : Int)) then
        bif ((r10.1.getD 0 0) == 1) && (((r10.1.getD 1 0) == 1) && ((r10.1.getD 2 0) == 6)) then
          bif decide (1 < (r10.1.length / 3 : Int)) then
            bif ((r10.1.getD 3 0) == 2) && (((r10.1.getD 4 0) == (-1)) && ((r10.1.getD 5 0) == 3)) then
              bif decide (2 < (r10.1.length / 3 : Int)) then
                bif ((r10.1.getD 6 0) == 2) && (((r10.1.getD 7 0) == 1) && ((r10.1.getD 8 0) == 3)) then
                  bif r28.2 == 2 then
                    bif r29.1 == 1 then
                      bif r29.2 == 0 then
                        (classes_Check.f N 0).bind fun r30 =>
                        bif r30 == 80 then
                          (classes_Check.f N (-65540)).bind fun r31 =>
                          bif r31 == 80 then
                            (classes_Check.f N (-65536)).bind fun r32 =>
                            bif r32 == 0 then
                              (parquetlaw11_works.f N).bind fun r33 =>
                              some r33
                            else
                            some false
                          else
                          some false
                        else
                        some false
                      else
                      some false
                    else
                    some false
                  else
                  some false
                else
                some false
              else none
            else
            some false
          else none
        else
        some false
      else none
    else
    some false
  else
  some false
noncomputable def parquetlaw11_ClassKnown.body : Code := (Try.f7.body).getD .skip
noncomputable def parquetlaw11_ClassKnown.ty : List (Nat × TI) := [(2, ty2), (22, ty22), (33, ty33), (45, ty45), (46, ty46)]
noncomputable def parquetlaw11_ClassKnown.h2 : Hint := ⟨[(16, .recd [.any, .any, .any, .any, .any, .any, .any, .any, .any]), (17, .any)], []⟩
noncomputable def parquetlaw11_ClassKnown.h11 : Hint := ⟨[(5, .row .i64 3), (6, .any), (37, .recd [.any, .any, .any, .any, .any, .any, .any, .any, .any, .any, .any, .any, .any, .any, .any, .any, .any]), (38, .any)], [(5, .any), (6, .any)]⟩
noncomputable def parquetlaw11_ClassKnown.E (N : Nat) : Env := { ty := lookN parquetlaw11_ClassKnown.ty, tab := lookN [(10, classes_Number.ent N), (9, classes_All.ent N), (16, classes_Hurwitz.ent N), (18, classes_Place.ent N), (12, classes_Check.ent N), (13, parquetlaw11_works.ent N)], hint := lookN [(2, parquetlaw11_ClassKnown.h2), (11, parquetlaw11_ClassKnown.h11)], cut := lookN [], N := 40, res := [.tmp 0], rsh := [.any], nb := 0, ntmps := 119, own := false }
noncomputable def parquetlaw11_ClassKnown.dec (v : V) (bs : List Blk) : Option (Bool) := match v, bs with
  | .c (.bool z0), [] => some z0
  | _, _ => none
set_option maxRecDepth 100000 in
theorem parquetlaw11_ClassKnown.f_eq (N : Nat) :
    evFun (parquetlaw11_ClassKnown.E N) parquetlaw11_ClassKnown.body [] [] parquetlaw11_ClassKnown.dec = parquetlaw11_ClassKnown.f N := by kernel_rfl
noncomputable def parquetlaw11_ClassKnown.ent (N : Nat) : Entry := { A := Bool, fresh := 0, imm := [], dec := fun args bs => match freezeL 0 (fun _ => .dead) [] args, bs with
  | some [], [] => some (parquetlaw11_ClassKnown.f N, fun r => .one (.c (.bool r)) [])
  | _, _ => none }
theorem parquetlaw11_ClassKnown.env (N : Nat) : EnvOK Try.prog (parquetlaw11_ClassKnown.E N) := ⟨(TyOK.cons ty2_ok (TyOK.cons ty22_ok (TyOK.cons ty33_ok (TyOK.cons ty45_ok (TyOK.cons ty46_ok TyOK.nil))))), (TabOK.cons (classes_Number.ent_ok N) (TabOK.cons (classes_All.ent_ok N) (TabOK.cons (classes_Hurwitz.ent_ok N) (TabOK.cons (classes_Place.ent_ok N) (TabOK.cons (classes_Check.ent_ok N) (TabOK.cons (parquetlaw11_works.ent_ok N) TabOK.nil))))))⟩
theorem parquetlaw11_ClassKnown.res_eq (N : Nat) : (parquetlaw11_ClassKnown.E N).res = Try.f7.results.toList := by kernel_rfl
theorem parquetlaw11_ClassKnown.spec (N : Nat) (r : Bool) (h : parquetlaw11_ClassKnown.f N = some r) : FnSpec Try.prog 7 [] [] (.c (.bool r)) ([]) := by
  rw [← parquetlaw11_ClassKnown.f_eq] at h
  refine (evFun_ok (parquetlaw11_ClassKnown.env N) Try_mixed Try.func7 (by kernel_rfl : Try.f7.body = some parquetlaw11_ClassKnown.body) (by kernel_rfl) (parquetlaw11_ClassKnown.res_eq N) (by kernel_rfl) (by kernel_rfl) (Nat.le_of_ble_eq_true (by kernel_rfl)) (AllCut.of (l := [(.loop (inner ((subLoops parquetlaw11_ClassKnown.body).getD 0 .skip))), (.loop (inner ((subLoops parquetlaw11_ClassKnown.body).getD 1 .skip)))]) (by kernel_rfl) (AllCut.cons (cut_loop (by kernel_rfl)) (AllCut.cons (cut_loop (by kernel_rfl)) AllCut.nil))) h).of fun v bs' h1 => ?_
  unfold parquetlaw11_ClassKnown.dec at h1; split at h1
  · cases h1; exact ⟨rfl, rfl⟩
  · cases h1
theorem parquetlaw11_ClassKnown.ent_ok (N : Nat) : TabOK1 Try.prog 7 (parquetlaw11_ClassKnown.ent N) := by
  intro args bs a enc h
  simp only [parquetlaw11_ClassKnown.ent] at h
  split at h
  · rename_i hz; have h0 := Option.some.inj h; have h1 := congrArg Prod.fst h0; have h2 := congrArg Prod.snd h0; dsimp only at h1 h2; subst h2; exact FnSpec.of_freeze hz (parquetlaw11_ClassKnown.spec N a h1)
  · cases h
/-! parquet/parquetlaw11.ClassOnce: function 8 -/
noncomputable def parquetlaw11_ClassOnce.l12 {R : Type} (N : Nat) : Nat → Int → Int → Int → Int → Int → Int → Int → List Int → (Unit → Option R) → (Bool → Option R) → Option R
  | 0, _, _, _, _, _, _, _, _, _, _ => none
  | n + 1, x9, x10, x11, x12, x13, x14, x15, x16, k0, kr =>
    bif decide (x12 < x11) then
      bif (decide (0 ≤ x12)) && (decide (x12 < (x16.length / 3 : Int))) then
        (binary_Proper.f N x13 x14 x15 (x16.getD (x12.toNat * 3) 0) (x16.getD ((x12.toNat * 3) + 1) 0) (x16.getD ((x12.toNat * 3) + 2) 0)).bind fun r17 =>
        (classes_Place.f N (x16.getD (x12.toNat * 3) 0) (x16.getD ((x12.toNat * 3) + 1) 0) (x16.getD ((x12.toNat * 3) + 2) 0)).bind fun r18 =>
        bif r17.2 != 0 then
          kr false
        else
        bif !(r17.1 == (x12 == x9)) then
          kr false
        else
        bif r18.2 != 0 then
          kr false
        else
        bif r18.1 != x12 then
          kr false
        else
        (binary_Disc.f N (x16.getD (x12.toNat * 3) 0) (x16.getD ((x12.toNat * 3) + 1) 0) (x16.getD ((x12.toNat * 3) + 2) 0)).bind fun r20 =>
        bif r20 != x10 then
          kr false
        else
        (binary_Reduced.f N (x16.getD (x12.toNat * 3) 0) (x16.getD ((x12.toNat * 3) + 1) 0) (x16.getD ((x12.toNat * 3) + 2) 0)).bind fun r21 =>
        bif !r21 then
          kr false
        else
        (parquetlaw11_gcd.f N [x16.getD (x12.toNat * 3) 0, x16.getD ((x12.toNat * 3) + 1) 0, x16.getD ((x12.toNat * 3) + 2) 0]).bind fun r22 =>
        bif r22 != 1 then
          kr false
        else
        bif decide (x12 > 0) then
          bif (decide (0 ≤ (wi64 (x12 - 1)))) && (decide ((wi64 (x12 - 1)) < (x16.length / 3 : Int))) then
            bif decide ((x16.getD (((wi64 (x12 - 1)).toNat) * 3) 0) > (x16.getD (x12.toNat * 3) 0)) then
              kr false
            else
            bif (x16.getD (((wi64 (x12 - 1)).toNat) * 3) 0) == (x16.getD (x12.toNat * 3) 0) then
              bif decide ((x16.getD ((((wi64 (x12 - 1)).toNat) * 3) + 1) 0) ≥ (x16.getD ((x12.toNat * 3) + 1) 0)) then
                kr false
              else
              parquetlaw11_ClassOnce.l12 N n x9 x10 x11 (wi64 (x12 + 1)) x13 x14 x15 x16 k0 kr
            else
            parquetlaw11_ClassOnce.l12 N n x9 x10 x11 (wi64 (x12 + 1)) x13 x14 x15 x16 k0 kr
          else none
        else
        parquetlaw11_ClassOnce.l12 N n x9 x10 x11 (wi64 (x12 + 1)) x13 x14 x15 x16 k0 kr
      else none
    else
    k0 ()
noncomputable def parquetlaw11_ClassOnce.f (N : Nat) (a1 : Int) (a2 : Int) (a3 : Int) : Option (Bool) :=
  (parquetlaw11_works.f N).bind fun r4 =>
  bif !r4 then
    some false
  else
  (classes_Place.f N a1 a2 a3).bind fun r5 =>
  bif r5.2 != 0 then
    some (r5.1 == 0)
  else
  (binary_Disc.f N a1 a2 a3).bind fun r6 =>
  (classes_All.f N r6).bind fun r7 =>
  (classes_Number.f N r6).bind fun r8 =>
  bif r7.2 != 0 then
    some false
  else
  bif r8.2 != 0 then
    some false
  else
  bif r8.1 != (r7.1.length / 3 : Int) then
    some false
  else
  bif decide (r5.1 < 0) then
    some false
  else
  bif decide (r5.1 ≥ r8.1) then
    some false
  else
  parquetlaw11_ClassOnce.l12 N N r5.1 r6 (r7.1.length / 3 : Int) 0 a1 a2 a3 r7.1
    (fun (_ : Unit) =>
      some true)
    (fun y23 =>
      some y23)
noncomputable def parquetlaw11_ClassOnce.body : Code := (Try.f8.body).getD .skip
noncomputable def parquetlaw11_ClassOnce.ty : List (Nat × TI) := [(2, ty2), (4, ty4), (22, ty22), (33, ty33), (61, ty61)]
noncomputable def parquetlaw11_ClassOnce.h12 : Hint := ⟨[(1, .box [.any, .any, .any]), (3, .any), (5, .any), (6, .row .i64 3), (60, .row .i64 3), (61, .any), (62, .any)], []⟩
noncomputable def parquetlaw11_ClassOnce.c12 (N : Nat) : Cut := ⟨fun vs H k => match vs, H with
  | [.ptr 0 0 3, .c (.int .i64 x9), .c (.int .i64 x10), .sw 1 3, .sw 1 3, .c (.int .i64 x11), .c (.int .i64 x12)], [.vals [.c (.int .i64 x13), .c (.int .i64 x14), .c (.int .i64 x15)], .ints .i64 x16] => parquetlaw11_ClassOnce.l12 N N x9 x10 x11 x12 x13 x14 x15 x16 (fun (_ : Unit) => k (.exit 0) ⟨mkT parquetlaw11_ClassOnce.h12.out [], []⟩) (fun x19 => k (.ret (.c (.bool x19)) []) .nil)
  | _, _ => none⟩
noncomputable def parquetlaw11_ClassOnce.E (N : Nat) : Env := { ty := lookN parquetlaw11_ClassOnce.ty, tab := lookN [(13, parquetlaw11_works.ent N), (18, classes_Place.ent N), (22, binary_Disc.ent N), (9, classes_All.ent N), (10, classes_Number.ent N), (23, binary_Proper.ent N), (24, binary_Reduced.ent N), (25, parquetlaw11_gcd.ent N)], hint := lookN [(12, parquetlaw11_ClassOnce.h12)], cut := lookN [(12, parquetlaw11_ClassOnce.c12 N)], N := N, res := [.tmp 2], rsh := [.any], nb := 0, ntmps := 145, own := false }
noncomputable def parquetlaw11_ClassOnce.b12 : Code := inner ((subLoops parquetlaw11_ClassOnce.body).getD 0 .skip)
set_option maxRecDepth 100000 in
theorem parquetlaw11_ClassOnce.l12_eq {R : Type} (N n : Nat) (x9 : Int) (x10 : Int) (x11 : Int) (x12 : Int) (x13 : Int) (x14 : Int) (x15 : Int) (x16 : List Int) (k : Ex → St → Option R) :
    evLoop 0 parquetlaw11_ClassOnce.h12 (fun s k => evCode (parquetlaw11_ClassOnce.E N) 388 parquetlaw11_ClassOnce.b12 s k) n [.ptr 0 0 3, .c (.int .i64 x9), .c (.int .i64 x10), .sw 1 3, .sw 1 3, .c (.int .i64 x11), .c (.int .i64 x12)] [.vals [.c (.int .i64 x13), .c (.int .i64 x14), .c (.int .i64 x15)], .ints .i64 x16] k = parquetlaw11_ClassOnce.l12 N n x9 x10 x11 x12 x13 x14 x15 x16 (fun (_ : Unit) => k (.exit 0) ⟨mkT parquetlaw11_ClassOnce.h12.out [], []⟩) (fun x19 => k (.ret (.c (.bool x19)) []) .nil) := by
  induction n generalizing x9 x10 x11 x12 x13 x14 x15 x16 with
  | zero => kernel_rfl
  | succ n ih =>
    simp only [parquetlaw11_ClassOnce.l12, ← ih]
    kernel_rfl
noncomputable def parquetlaw11_ClassOnce.dec (v : V) (bs : List Blk) : Option (Bool) := match v, bs with
  | .c (.bool z0), [] => some z0
  | _, _ => none
set_option maxRecDepth 100000 in
theorem parquetlaw11_ClassOnce.f_eq (N : Nat) (a1 : Int) (a2 : Int) (a3 : Int) :
    evFun (parquetlaw11_ClassOnce.E N) parquetlaw11_ClassOnce.body [.agg [.c (.int .i64 a1), .c (.int .i64 a2), .c (.int .i64 a3)]] [] parquetlaw11_ClassOnce.dec = parquetlaw11_ClassOnce.f N a1 a2 a3 := by kernel_rfl
noncomputable def parquetlaw11_ClassOnce.ent (N : Nat) : Entry := { A := Bool, fresh := 0, imm := [true], dec := fun args bs => match freezeL 0 (fun _ => .dead) [.recd [.any, .any, .any]] args, bs with
  | some [.agg [.c (.int .i64 a1), .c (.int .i64 a2), .c (.int .i64 a3)]], [] => some (parquetlaw11_ClassOnce.f N a1 a2 a3, fun r => .one (.c (.bool r)) [])
  | _, _ => none }
theorem parquetlaw11_ClassOnce.env (N : Nat) : EnvOK Try.prog (parquetlaw11_ClassOnce.E N) := ⟨(TyOK.cons ty2_ok (TyOK.cons ty4_ok (TyOK.cons ty22_ok (TyOK.cons ty33_ok (TyOK.cons ty61_ok TyOK.nil))))), (TabOK.cons (parquetlaw11_works.ent_ok N) (TabOK.cons (classes_Place.ent_ok N) (TabOK.cons (binary_Disc.ent_ok N) (TabOK.cons (classes_All.ent_ok N) (TabOK.cons (classes_Number.ent_ok N) (TabOK.cons (binary_Proper.ent_ok N) (TabOK.cons (binary_Reduced.ent_ok N) (TabOK.cons (parquetlaw11_gcd.ent_ok N) TabOK.nil))))))))⟩
theorem parquetlaw11_ClassOnce.res_eq (N : Nat) : (parquetlaw11_ClassOnce.E N).res = Try.f8.results.toList := by kernel_rfl
theorem parquetlaw11_ClassOnce.k12 (N : Nat) : CutOK Try.prog Try.f8 (parquetlaw11_ClassOnce.E N) (.loop parquetlaw11_ClassOnce.b12) := by
  intro e hd he hh R vs H k r h
  have e1 : (parquetlaw11_ClassOnce.E N).cut (loopKey parquetlaw11_ClassOnce.b12) = some (parquetlaw11_ClassOnce.c12 N) := by kernel_rfl
  have e2 : (parquetlaw11_ClassOnce.E N).hint (loopKey parquetlaw11_ClassOnce.b12) = some parquetlaw11_ClassOnce.h12 := by kernel_rfl
  rw [e1] at he; rw [e2] at hh; cases he; cases hh
  unfold parquetlaw11_ClassOnce.c12 at h; dsimp only at h
  split at h
  · rw [← parquetlaw11_ClassOnce.l12_eq] at h
    exact loop_ok (evCode_ok (parquetlaw11_ClassOnce.env N) Try_mixed (parquetlaw11_ClassOnce.res_eq N) 388 parquetlaw11_ClassOnce.b12 (AllCut.of (l := []) (by kernel_rfl) AllCut.nil)) h
  · cases h
theorem parquetlaw11_ClassOnce.spec (N : Nat) (a1 : Int) (a2 : Int) (a3 : Int) (r : Bool) (h : parquetlaw11_ClassOnce.f N a1 a2 a3 = some r) : FnSpec Try.prog 8 [.agg [.c (.int .i64 a1), .c (.int .i64 a2), .c (.int .i64 a3)]] [] (.c (.bool r)) ([]) := by
  rw [← parquetlaw11_ClassOnce.f_eq] at h
  refine (evFun_ok (parquetlaw11_ClassOnce.env N) Try_mixed Try.func8 (by kernel_rfl : Try.f8.body = some parquetlaw11_ClassOnce.body) (by kernel_rfl) (parquetlaw11_ClassOnce.res_eq N) (by kernel_rfl) (by kernel_rfl) (Nat.le_of_ble_eq_true (by kernel_rfl)) (AllCut.of (l := [(.loop (inner ((subLoops parquetlaw11_ClassOnce.body).getD 0 .skip)))]) (by kernel_rfl) (AllCut.cons (parquetlaw11_ClassOnce.k12 N) AllCut.nil)) h).of fun v bs' h1 => ?_
  unfold parquetlaw11_ClassOnce.dec at h1; split at h1
  · cases h1; exact ⟨rfl, rfl⟩
  · cases h1
theorem parquetlaw11_ClassOnce.ent_ok (N : Nat) : TabOK1 Try.prog 8 (parquetlaw11_ClassOnce.ent N) := by
  intro args bs a enc h
  simp only [parquetlaw11_ClassOnce.ent] at h
  split at h
  · rename_i hz; have h0 := Option.some.inj h; have h1 := congrArg Prod.fst h0; have h2 := congrArg Prod.snd h0; dsimp only at h1 h2; subst h2; exact FnSpec.of_freeze hz (parquetlaw11_ClassOnce.spec N _ _ _ a h1)
  · cases h
end Go.Proofs.Ytifnooogklfifaa
