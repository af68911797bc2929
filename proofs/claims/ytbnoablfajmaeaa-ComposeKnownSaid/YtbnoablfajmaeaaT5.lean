-- The seat's functions as the evaluator goes through them: typed models and their laws.
import Derived.Test.YtbnoablfajmaeaaProg
import Derived.Test.YtbnoablfajmaeaaEvF
import Derived.Test.YtbnoablfajmaeaaT4
import Derived.KernelRfl
namespace Go.Proofs.Ytbnoablfajmaeaa
open Go.Proofs.Ytbnoablfajmaeaa.Ev
set_option linter.unusedVariables false
open Go

noncomputable def ty21 : TI := ⟨.int .i32, 1, 4, [.int .i32 0]⟩
noncomputable def ty30 : TI := ⟨.int .u16, 1, 2, [.int .u16 0]⟩
noncomputable def ty43 : TI := ⟨.int .i8, 1, 1, [.int .i8 0]⟩
noncomputable def ty58 : TI := ⟨.arr 2 2, 2, 16, [.int .i64 0, .int .i64 0]⟩
theorem ty21_ok : TyOK1 Try.prog 21 ty21 := tyok_of (by kernel_rfl) (by kernel_rfl) (by kernel_rfl) (by kernel_rfl) (by kernel_rfl) (by kernel_rfl) (by kernel_rfl) (Try.underlying21) (by kernel_rfl)
theorem ty30_ok : TyOK1 Try.prog 30 ty30 := tyok_of (by kernel_rfl) (by kernel_rfl) (by kernel_rfl) (by kernel_rfl) (by kernel_rfl) (by kernel_rfl) (by kernel_rfl) (Try.underlying30) (by kernel_rfl)
theorem ty43_ok : TyOK1 Try.prog 43 ty43 := tyok_of (by kernel_rfl) (by kernel_rfl) (by kernel_rfl) (by kernel_rfl) (by kernel_rfl) (by kernel_rfl) (by kernel_rfl) (Try.underlying43) (by kernel_rfl)
theorem ty58_ok : TyOK1 Try.prog 58 ty58 := tyok_of (by kernel_rfl) (by kernel_rfl) (by kernel_rfl) (by kernel_rfl) (by kernel_rfl) (by kernel_rfl) (by kernel_rfl) (Try.underlying58) (by kernel_rfl)
/-! parquet/parquetlaw10.within: function 11 -/
noncomputable def parquetlaw10_within.l10 {R : Type} (N : Nat) : Nat → Int → Int → Int → Int → Int → Int → Int → Int → Int → (Int → Int → Int → Int → Int → Int → Option R) → (Int → Int → Int → Option R) → Option R
  | 0, _, _, _, _, _, _, _, _, _, _, _ => none
  | n + 1, x4, x5, x6, x7, x8, x9, x10, x11, x12, k0, kr =>
    bif decide (x6 > 0) then
      bif !(x6 == 0) then
        bif !(x6 == 0) then
          bif (Int.tmod x5 x6) == 0 then
            (binary_Check.f N x6 x4 (wi64 (Int.tdiv x5 x6))).bind fun r13 =>
            bif r13 == 0 then
              (binary_Content.f N x6 x4 (wi64 (Int.tdiv x5 x6))).bind fun r14 =>
              bif r14 == 1 then
                kr x6 x4 (wi64 (Int.tdiv x5 x6))
              else
              parquetlaw10_within.l10 N n x4 x5 (wi64 (x6 - 1)) x7 x8 x9 x10 x11 x12 k0 kr
            else
            parquetlaw10_within.l10 N n x4 x5 (wi64 (x6 - 1)) x7 x8 x9 x10 x11 x12 k0 kr
          else
          parquetlaw10_within.l10 N n x4 x5 (wi64 (x6 - 1)) x7 x8 x9 x10 x11 x12 k0 kr
        else none
      else none
    else
    k0 x7 x8 x9 x10 x11 x12
noncomputable def parquetlaw10_within.f (N : Nat) (a1 : Int) (a2 : Int) : Option (Int × Int × Int) :=
  bif (Int.tmod (wi64 ((wi64 (0 - (wi64 (Int.tmod a1 65000)))) - 3)) 4) == (-1) then
    (compose_One.f N (wi64 ((wi64 ((wi64 (0 - (wi64 (Int.tmod a1 65000)))) - 3)) - 2))).bind fun r3 =>
    bif (Int.tmod (wi64 ((wi64 ((wi64 ((wi64 (Int.tmod a2 200)) - 100)) * (wi64 ((wi64 (Int.tmod a2 200)) - 100)))) - (wi64 ((wi64 ((wi64 (0 - (wi64 (Int.tmod a1 65000)))) - 3)) - 2)))) 4) != 0 then
      parquetlaw10_within.l10 N N (wi64 ((wi64 ((wi64 (Int.tmod a2 200)) - 100)) + 1)) (wi64 (Int.tdiv (wi64 ((wi64 ((wi64 ((wi64 ((wi64 (Int.tmod a2 200)) - 100)) + 1)) * (wi64 ((wi64 ((wi64 (Int.tmod a2 200)) - 100)) + 1)))) - (wi64 ((wi64 ((wi64 (0 - (wi64 (Int.tmod a1 65000)))) - 3)) - 2)))) 4)) (wi64 ((wi64 (Int.tmod a2 50)) + 1)) 0 0 0 r3.1 r3.2.1 r3.2.2.1
        (fun y24 y25 y26 y27 y28 y29 =>
          some (y27, y28, y29))
        (fun y30 y31 y32 =>
          some (y30, y31, y32))
    else
    parquetlaw10_within.l10 N N (wi64 ((wi64 (Int.tmod a2 200)) - 100)) (wi64 (Int.tdiv (wi64 ((wi64 ((wi64 ((wi64 (Int.tmod a2 200)) - 100)) * (wi64 ((wi64 (Int.tmod a2 200)) - 100)))) - (wi64 ((wi64 ((wi64 (0 - (wi64 (Int.tmod a1 65000)))) - 3)) - 2)))) 4)) (wi64 ((wi64 (Int.tmod a2 50)) + 1)) 0 0 0 r3.1 r3.2.1 r3.2.2.1
      (fun y33 y34 y35 y36 y37 y38 =>
        some (y36, y37, y38))
      (fun y39 y40 y41 =>
        some (y39, y40, y41))
  else
  bif (Int.tmod (wi64 ((wi64 (0 - (wi64 (Int.tmod a1 65000)))) - 3)) 4) == (-2) then
    (compose_One.f N (wi64 ((wi64 ((wi64 (0 - (wi64 (Int.tmod a1 65000)))) - 3)) - 2))).bind fun r42 =>
    bif (Int.tmod (wi64 ((wi64 ((wi64 ((wi64 (Int.tmod a2 200)) - 100)) * (wi64 ((wi64 (Int.tmod a2 200)) - 100)))) - (wi64 ((wi64 ((wi64 (0 - (wi64 (Int.tmod a1 65000)))) - 3)) - 2)))) 4) != 0 then
      parquetlaw10_within.l10 N N (wi64 ((wi64 ((wi64 (Int.tmod a2 200)) - 100)) + 1)) (wi64 (Int.tdiv (wi64 ((wi64 ((wi64 ((wi64 ((wi64 (Int.tmod a2 200)) - 100)) + 1)) * (wi64 ((wi64 ((wi64 (Int.tmod a2 200)) - 100)) + 1)))) - (wi64 ((wi64 ((wi64 (0 - (wi64 (Int.tmod a1 65000)))) - 3)) - 2)))) 4)) (wi64 ((wi64 (Int.tmod a2 50)) + 1)) 0 0 0 r42.1 r42.2.1 r42.2.2.1
        (fun y43 y44 y45 y46 y47 y48 =>
          some (y46, y47, y48))
        (fun y49 y50 y51 =>
          some (y49, y50, y51))
    else
    parquetlaw10_within.l10 N N (wi64 ((wi64 (Int.tmod a2 200)) - 100)) (wi64 (Int.tdiv (wi64 ((wi64 ((wi64 ((wi64 (Int.tmod a2 200)) - 100)) * (wi64 ((wi64 (Int.tmod a2 200)) - 100)))) - (wi64 ((wi64 ((wi64 (0 - (wi64 (Int.tmod a1 65000)))) - 3)) - 2)))) 4)) (wi64 ((wi64 (Int.tmod a2 50)) + 1)) 0 0 0 r42.1 r42.2.1 r42.2.2.1
      (fun y52 y53 y54 y55 y56 y57 =>
        some (y55, y56, y57))
      (fun y58 y59 y60 =>
        some (y58, y59, y60))
  else
  (compose_One.f N (wi64 ((wi64 (0 - (wi64 (Int.tmod a1 65000)))) - 3))).bind fun r61 =>
  bif (Int.tmod (wi64 ((wi64 ((wi64 ((wi64 (Int.tmod a2 200)) - 100)) * (wi64 ((wi64 (Int.tmod a2 200)) - 100)))) - (wi64 ((wi64 (0 - (wi64 (Int.tmod a1 65000)))) - 3)))) 4) != 0 then
    parquetlaw10_within.l10 N N (wi64 ((wi64 ((wi64 (Int.tmod a2 200)) - 100)) + 1)) (wi64 (Int.tdiv (wi64 ((wi64 ((wi64 ((wi64 ((wi64 (Int.tmod a2 200)) - 100)) + 1)) * (wi64 ((wi64 ((wi64 (Int.tmod a2 200)) - 100)) + 1)))) - (wi64 ((wi64 (0 - (wi64 (Int.tmod a1 65000)))) - 3)))) 4)) (wi64 ((wi64 (Int.tmod a2 50)) + 1)) 0 0 0 r61.1 r61.2.1 r61.2.2.1
      (fun y62 y63 y64 y65 y66 y67 =>
        some (y65, y66, y67))
      (fun y68 y69 y70 =>
        some (y68, y69, y70))
  else
  parquetlaw10_within.l10 N N (wi64 ((wi64 (Int.tmod a2 200)) - 100)) (wi64 (Int.tdiv (wi64 ((wi64 ((wi64 ((wi64 (Int.tmod a2 200)) - 100)) * (wi64 ((wi64 (Int.tmod a2 200)) - 100)))) - (wi64 ((wi64 (0 - (wi64 (Int.tmod a1 65000)))) - 3)))) 4)) (wi64 ((wi64 (Int.tmod a2 50)) + 1)) 0 0 0 r61.1 r61.2.1 r61.2.2.1
    (fun y71 y72 y73 y74 y75 y76 =>
      some (y74, y75, y76))
    (fun y77 y78 y79 =>
      some (y77, y78, y79))
noncomputable def parquetlaw10_within.body : Code := (Try.f11.body).getD .skip
noncomputable def parquetlaw10_within.ty : List (Nat × TI) := [(2, ty2), (23, ty23), (29, ty29), (30, ty30)]
noncomputable def parquetlaw10_within.h10 : Hint := ⟨[(4, .box [.any, .any, .any]), (6, .box [.any, .any, .any]), (8, .any), (9, .any), (10, .any)], [(4, .box [.any, .any, .any]), (6, .box [.any, .any, .any])]⟩
noncomputable def parquetlaw10_within.c10 (N : Nat) : Cut := ⟨fun vs H k => match vs, H with
  | [.ptr 0 0 3, .ptr 1 0 3, .c (.int .i64 x4), .c (.int .i64 x5), .c (.int .i64 x6)], [.vals [.c (.int .i64 x7), .c (.int .i64 x8), .c (.int .i64 x9)], .vals [.c (.int .i64 x10), .c (.int .i64 x11), .c (.int .i64 x12)]] => parquetlaw10_within.l10 N N x4 x5 x6 x7 x8 x9 x10 x11 x12 (fun x18 x19 x20 x21 x22 x23 => k (.exit 0) ⟨mkT parquetlaw10_within.h10.out [.ptr 0 0 3, .ptr 1 0 3], [.vals [.c (.int .i64 x18), .c (.int .i64 x19), .c (.int .i64 x20)], .vals [.c (.int .i64 x21), .c (.int .i64 x22), .c (.int .i64 x23)]]⟩) (fun x15 x16 x17 => k (.ret (.agg [.c (.int .i64 x15), .c (.int .i64 x16), .c (.int .i64 x17)]) []) .nil)
  | _, _ => none⟩
noncomputable def parquetlaw10_within.E (N : Nat) : Env := { ty := lookN parquetlaw10_within.ty, tab := lookN [(8, compose_One.ent N), (21, binary_Check.ent N), (22, binary_Content.ent N)], hint := lookN [(10, parquetlaw10_within.h10)], cut := lookN [(10, parquetlaw10_within.c10 N)], N := N, res := [.cell 4 23], rsh := [.recd [.any, .any, .any]], nb := 0, ntmps := 81, own := false }
noncomputable def parquetlaw10_within.b10 : Code := inner ((subLoops parquetlaw10_within.body).getD 0 .skip)
set_option maxRecDepth 100000 in
theorem parquetlaw10_within.l10_eq {R : Type} (N n : Nat) (x4 : Int) (x5 : Int) (x6 : Int) (x7 : Int) (x8 : Int) (x9 : Int) (x10 : Int) (x11 : Int) (x12 : Int) (k : Ex → St → Option R) :
    evLoop 0 parquetlaw10_within.h10 (fun s k => evCode (parquetlaw10_within.E N) 389 parquetlaw10_within.b10 s k) n [.ptr 0 0 3, .ptr 1 0 3, .c (.int .i64 x4), .c (.int .i64 x5), .c (.int .i64 x6)] [.vals [.c (.int .i64 x7), .c (.int .i64 x8), .c (.int .i64 x9)], .vals [.c (.int .i64 x10), .c (.int .i64 x11), .c (.int .i64 x12)]] k = parquetlaw10_within.l10 N n x4 x5 x6 x7 x8 x9 x10 x11 x12 (fun x18 x19 x20 x21 x22 x23 => k (.exit 0) ⟨mkT parquetlaw10_within.h10.out [.ptr 0 0 3, .ptr 1 0 3], [.vals [.c (.int .i64 x18), .c (.int .i64 x19), .c (.int .i64 x20)], .vals [.c (.int .i64 x21), .c (.int .i64 x22), .c (.int .i64 x23)]]⟩) (fun x15 x16 x17 => k (.ret (.agg [.c (.int .i64 x15), .c (.int .i64 x16), .c (.int .i64 x17)]) []) .nil) := by
  induction n generalizing x4 x5 x6 x7 x8 x9 x10 x11 x12 with
  | zero => kernel_rfl
  | succ n ih =>
    simp only [parquetlaw10_within.l10, ← ih]
    kernel_rfl
noncomputable def parquetlaw10_within.dec (v : V) (bs : List Blk) : Option (Int × Int × Int) := match v, bs with
  | .agg [.c (.int .i64 z0), .c (.int .i64 z1), .c (.int .i64 z2)], [] => some (z0, z1, z2)
  | _, _ => none
set_option maxRecDepth 100000 in
theorem parquetlaw10_within.f_eq (N : Nat) (a1 : Int) (a2 : Int) :
    evFun (parquetlaw10_within.E N) parquetlaw10_within.body [.c (.int .u32 a1), .c (.int .u16 a2)] [] parquetlaw10_within.dec = parquetlaw10_within.f N a1 a2 := by kernel_rfl
noncomputable def parquetlaw10_within.ent (N : Nat) : Entry := { A := Int × Int × Int, fresh := 0, imm := [true, true], dec := fun args bs => match freezeL 0 (fun _ => .dead) [.any, .any] args, bs with
  | some [.c (.int .u32 a1), .c (.int .u16 a2)], [] => some (parquetlaw10_within.f N a1 a2, fun r => .one (.agg [.c (.int .i64 r.1), .c (.int .i64 r.2.1), .c (.int .i64 r.2.2)]) [])
  | _, _ => none }
theorem parquetlaw10_within.env (N : Nat) : EnvOK Try.prog (parquetlaw10_within.E N) := ⟨(TyOK.cons ty2_ok (TyOK.cons ty23_ok (TyOK.cons ty29_ok (TyOK.cons ty30_ok TyOK.nil)))), (TabOK.cons (compose_One.ent_ok N) (TabOK.cons (binary_Check.ent_ok N) (TabOK.cons (binary_Content.ent_ok N) TabOK.nil)))⟩
theorem parquetlaw10_within.res_eq (N : Nat) : (parquetlaw10_within.E N).res = Try.f11.results.toList := by kernel_rfl
theorem parquetlaw10_within.k10 (N : Nat) : CutOK Try.prog Try.f11 (parquetlaw10_within.E N) (.loop parquetlaw10_within.b10) := by
  intro e hd he hh R vs H k r h
  have e1 : (parquetlaw10_within.E N).cut (loopKey parquetlaw10_within.b10) = some (parquetlaw10_within.c10 N) := by kernel_rfl
  have e2 : (parquetlaw10_within.E N).hint (loopKey parquetlaw10_within.b10) = some parquetlaw10_within.h10 := by kernel_rfl
  rw [e1] at he; rw [e2] at hh; cases he; cases hh
  unfold parquetlaw10_within.c10 at h; dsimp only at h
  split at h
  · rw [← parquetlaw10_within.l10_eq] at h
    exact loop_ok (evCode_ok (parquetlaw10_within.env N) Try_mixed (parquetlaw10_within.res_eq N) 389 parquetlaw10_within.b10 (AllCut.of (l := []) (by kernel_rfl) AllCut.nil)) h
  · cases h
theorem parquetlaw10_within.spec (N : Nat) (a1 : Int) (a2 : Int) (r : Int × Int × Int) (h : parquetlaw10_within.f N a1 a2 = some r) : FnSpec Try.prog 11 [.c (.int .u32 a1), .c (.int .u16 a2)] [] (.agg [.c (.int .i64 r.1), .c (.int .i64 r.2.1), .c (.int .i64 r.2.2)]) ([]) := by
  rw [← parquetlaw10_within.f_eq] at h
  obtain ⟨v, bs', h1, h2⟩ := evFun_ok (parquetlaw10_within.env N) Try_mixed Try.func11 (by kernel_rfl : Try.f11.body = some parquetlaw10_within.body) (by kernel_rfl) (parquetlaw10_within.res_eq N) (by kernel_rfl) (by kernel_rfl) (Nat.le_of_ble_eq_true (by kernel_rfl)) (AllCut.of (l := [(.loop (inner ((subLoops parquetlaw10_within.body).getD 0 .skip)))]) (by kernel_rfl) (AllCut.cons (parquetlaw10_within.k10 N) AllCut.nil)) h
  unfold parquetlaw10_within.dec at h1; split at h1
  · cases h1; exact h2
  · cases h1
theorem parquetlaw10_within.ent_ok (N : Nat) : TabOK1 Try.prog 11 (parquetlaw10_within.ent N) := by
  intro args bs a enc h
  simp only [parquetlaw10_within.ent] at h
  split at h
  · rename_i hz; have h0 := Option.some.inj h; have h1 := congrArg Prod.fst h0; have h2 := congrArg Prod.snd h0; dsimp only at h1 h2; subst h2; exact FnSpec.of_freeze hz (parquetlaw10_within.spec N _ _ a h1)
  · cases h
/-! parquet/parquetlaw10.ComposeGroup: function 5 -/
noncomputable def parquetlaw10_ComposeGroup.f (N : Nat) (a1 : Int) (a2 : Int) (a3 : Int) (a4 : Int) : Option (Bool) :=
  (parquetlaw10_within.f N a1 a2).bind fun r5 =>
  (parquetlaw10_within.f N a1 a3).bind fun r6 =>
  (parquetlaw10_within.f N a1 a4).bind fun r7 =>
  (binary_Disc.f N r5.1 r5.2.1 r5.2.2).bind fun r8 =>
  (compose_One.f N r8).bind fun r9 =>
  (compose_Compose.f N r5.1 r5.2.1 r5.2.2 r6.1 r6.2.1 r6.2.2).bind fun r10 =>
  (compose_Compose.f N r6.1 r6.2.1 r6.2.2 r5.1 r5.2.1 r5.2.2).bind fun r11 =>
  bif r9.2.2.2 != 0 then
    some false
  else
  bif !((r10.1 == r11.1) && ((r10.2.1 == r11.2.1) && (r10.2.2.1 == r11.2.2.1))) then
    some false
  else
  (binary_Reduced.f N r10.1 r10.2.1 r10.2.2.1).bind fun r12 =>
  bif !r12 then
    some false
  else
  (binary_Disc.f N r10.1 r10.2.1 r10.2.2.1).bind fun r13 =>
  (binary_Disc.f N r5.1 r5.2.1 r5.2.2).bind fun r14 =>
  bif r13 != r14 then
    some false
  else
  (compose_Compose.f N r10.1 r10.2.1 r10.2.2.1 r7.1 r7.2.1 r7.2.2).bind fun r15 =>
  (compose_Compose.f N r6.1 r6.2.1 r6.2.2 r7.1 r7.2.1 r7.2.2).bind fun r16 =>
  (compose_Compose.f N r5.1 r5.2.1 r5.2.2 r16.1 r16.2.1 r16.2.2.1).bind fun r17 =>
  bif r17.2.2.2 != 0 then
    some false
  else
  bif !((r15.1 == r17.1) && ((r15.2.1 == r17.2.1) && (r15.2.2.1 == r17.2.2.1))) then
    some false
  else
  (binary_Reduce.f N r5.1 r5.2.1 r5.2.2).bind fun r18 =>
  (compose_Compose.f N r5.1 r5.2.1 r5.2.2 r9.1 r9.2.1 r9.2.2.1).bind fun r19 =>
  (compose_Inverse.f N r5.1 r5.2.1 r5.2.2).bind fun r20 =>
  (compose_Compose.f N r5.1 r5.2.1 r5.2.2 r20.1 r20.2.1 r20.2.2.1).bind fun r21 =>
  (compose_Compose.f N r18.1 r18.2.1 r18.2.2.1 r6.1 r6.2.1 r6.2.2).bind fun r22 =>
  bif r21.2.2.2 == 0 then
    bif (r19.1 == r18.1) && ((r19.2.1 == r18.2.1) && (r19.2.2.1 == r18.2.2.1)) then
      bif (r21.1 == r9.1) && ((r21.2.1 == r9.2.1) && (r21.2.2.1 == r9.2.2.1)) then
        bif (r22.1 == r10.1) && ((r22.2.1 == r10.2.1) && (r22.2.2.1 == r10.2.2.1)) then
          (parquetlaw10_wakes.f N).bind fun r23 =>
          some r23
        else
        some false
      else
      some false
    else
    some false
  else
  some false
noncomputable def parquetlaw10_ComposeGroup.body : Code := (Try.f5.body).getD .skip
noncomputable def parquetlaw10_ComposeGroup.ty : List (Nat × TI) := [(2, ty2), (23, ty23), (39, ty39)]
noncomputable def parquetlaw10_ComposeGroup.E (N : Nat) : Env := { ty := lookN parquetlaw10_ComposeGroup.ty, tab := lookN [(11, parquetlaw10_within.ent N), (15, binary_Disc.ent N), (8, compose_One.ent N), (13, compose_Compose.ent N), (16, binary_Reduced.ent N), (17, binary_Reduce.ent N), (14, compose_Inverse.ent N), (10, parquetlaw10_wakes.ent N)], hint := lookN [], cut := lookN [], N := N, res := [.tmp 8], rsh := [.any], nb := 0, ntmps := 153, own := false }
noncomputable def parquetlaw10_ComposeGroup.dec (v : V) (bs : List Blk) : Option (Bool) := match v, bs with
  | .c (.bool z0), [] => some z0
  | _, _ => none
set_option maxRecDepth 100000 in
theorem parquetlaw10_ComposeGroup.f_eq (N : Nat) (a1 : Int) (a2 : Int) (a3 : Int) (a4 : Int) :
    evFun (parquetlaw10_ComposeGroup.E N) parquetlaw10_ComposeGroup.body [.c (.int .u32 a1), .c (.int .u16 a2), .c (.int .u16 a3), .c (.int .u16 a4)] [] parquetlaw10_ComposeGroup.dec = parquetlaw10_ComposeGroup.f N a1 a2 a3 a4 := by kernel_rfl
noncomputable def parquetlaw10_ComposeGroup.ent (N : Nat) : Entry := { A := Bool, fresh := 0, imm := [true, true, true, true], dec := fun args bs => match freezeL 0 (fun _ => .dead) [.any, .any, .any, .any] args, bs with
  | some [.c (.int .u32 a1), .c (.int .u16 a2), .c (.int .u16 a3), .c (.int .u16 a4)], [] => some (parquetlaw10_ComposeGroup.f N a1 a2 a3 a4, fun r => .one (.c (.bool r)) [])
  | _, _ => none }
theorem parquetlaw10_ComposeGroup.env (N : Nat) : EnvOK Try.prog (parquetlaw10_ComposeGroup.E N) := ⟨(TyOK.cons ty2_ok (TyOK.cons ty23_ok (TyOK.cons ty39_ok TyOK.nil))), (TabOK.cons (parquetlaw10_within.ent_ok N) (TabOK.cons (binary_Disc.ent_ok N) (TabOK.cons (compose_One.ent_ok N) (TabOK.cons (compose_Compose.ent_ok N) (TabOK.cons (binary_Reduced.ent_ok N) (TabOK.cons (binary_Reduce.ent_ok N) (TabOK.cons (compose_Inverse.ent_ok N) (TabOK.cons (parquetlaw10_wakes.ent_ok N) TabOK.nil))))))))⟩
theorem parquetlaw10_ComposeGroup.res_eq (N : Nat) : (parquetlaw10_ComposeGroup.E N).res = Try.f5.results.toList := by kernel_rfl
theorem parquetlaw10_ComposeGroup.spec (N : Nat) (a1 : Int) (a2 : Int) (a3 : Int) (a4 : Int) (r : Bool) (h : parquetlaw10_ComposeGroup.f N a1 a2 a3 a4 = some r) : FnSpec Try.prog 5 [.c (.int .u32 a1), .c (.int .u16 a2), .c (.int .u16 a3), .c (.int .u16 a4)] [] (.c (.bool r)) ([]) := by
  rw [← parquetlaw10_ComposeGroup.f_eq] at h
  obtain ⟨v, bs', h1, h2⟩ := evFun_ok (parquetlaw10_ComposeGroup.env N) Try_mixed Try.func5 (by kernel_rfl : Try.f5.body = some parquetlaw10_ComposeGroup.body) (by kernel_rfl) (parquetlaw10_ComposeGroup.res_eq N) (by kernel_rfl) (by kernel_rfl) (Nat.le_of_ble_eq_true (by kernel_rfl)) (AllCut.of (l := []) (by kernel_rfl) AllCut.nil) h
  unfold parquetlaw10_ComposeGroup.dec at h1; split at h1
  · cases h1; exact h2
  · cases h1
theorem parquetlaw10_ComposeGroup.ent_ok (N : Nat) : TabOK1 Try.prog 5 (parquetlaw10_ComposeGroup.ent N) := by
  intro args bs a enc h
  simp only [parquetlaw10_ComposeGroup.ent] at h
  split at h
  · rename_i hz; have h0 := Option.some.inj h; have h1 := congrArg Prod.fst h0; have h2 := congrArg Prod.snd h0; dsimp only at h1 h2; subst h2; exact FnSpec.of_freeze hz (parquetlaw10_ComposeGroup.spec N _ _ _ _ a h1)
  · cases h
/-! parquet/parquetlaw10.ComposeSums: function 4 -/
noncomputable def parquetlaw10_ComposeSums.f (N : Nat) (a1 : Int) (a2 : Int) (a3 : Int) (a4 : Int) : Option (Bool) :=
  (parquetlaw10_within.f N a1 a2).bind fun r5 =>
  (compose_Power.f N r5.1 r5.2.1 r5.2.2 (wi64 a3)).bind fun r6 =>
  (compose_Power.f N r5.1 r5.2.1 r5.2.2 (wi64 a4)).bind fun r7 =>
  (compose_Compose.f N r6.1 r6.2.1 r6.2.2.1 r7.1 r7.2.1 r7.2.2.1).bind fun r8 =>
  (compose_Power.f N r5.1 r5.2.1 r5.2.2 (wi64 ((wi64 a3) + (wi64 a4)))).bind fun r9 =>
  (compose_Inverse.f N r6.1 r6.2.1 r6.2.2.1).bind fun r10 =>
  (compose_Power.f N r5.1 r5.2.1 r5.2.2 (wi64 (0 - (wi64 a3)))).bind fun r11 =>
  bif r8.2.2.2 == 0 then
    bif r9.2.2.2 == 0 then
      bif (r8.1 == r9.1) && ((r8.2.1 == r9.2.1) && (r8.2.2.1 == r9.2.2.1)) then
        bif r11.2.2.2 == 0 then
          bif (r11.1 == r10.1) && ((r11.2.1 == r10.2.1) && (r11.2.2.1 == r10.2.2.1)) then
            (parquetlaw10_wakes.f N).bind fun r12 =>
            some r12
          else
          some false
        else
        some false
      else
      some false
    else
    some false
  else
  some false
noncomputable def parquetlaw10_ComposeSums.body : Code := (Try.f4.body).getD .skip
noncomputable def parquetlaw10_ComposeSums.ty : List (Nat × TI) := [(2, ty2), (21, ty21), (23, ty23)]
noncomputable def parquetlaw10_ComposeSums.E (N : Nat) : Env := { ty := lookN parquetlaw10_ComposeSums.ty, tab := lookN [(11, parquetlaw10_within.ent N), (12, compose_Power.ent N), (13, compose_Compose.ent N), (14, compose_Inverse.ent N), (10, parquetlaw10_wakes.ent N)], hint := lookN [], cut := lookN [], N := N, res := [.tmp 8], rsh := [.any], nb := 0, ntmps := 91, own := false }
noncomputable def parquetlaw10_ComposeSums.dec (v : V) (bs : List Blk) : Option (Bool) := match v, bs with
  | .c (.bool z0), [] => some z0
  | _, _ => none
set_option maxRecDepth 100000 in
theorem parquetlaw10_ComposeSums.f_eq (N : Nat) (a1 : Int) (a2 : Int) (a3 : Int) (a4 : Int) :
    evFun (parquetlaw10_ComposeSums.E N) parquetlaw10_ComposeSums.body [.c (.int .u32 a1), .c (.int .u16 a2), .c (.int .i32 a3), .c (.int .i32 a4)] [] parquetlaw10_ComposeSums.dec = parquetlaw10_ComposeSums.f N a1 a2 a3 a4 := by kernel_rfl
noncomputable def parquetlaw10_ComposeSums.ent (N : Nat) : Entry := { A := Bool, fresh := 0, imm := [true, true, true, true], dec := fun args bs => match freezeL 0 (fun _ => .dead) [.any, .any, .any, .any] args, bs with
  | some [.c (.int .u32 a1), .c (.int .u16 a2), .c (.int .i32 a3), .c (.int .i32 a4)], [] => some (parquetlaw10_ComposeSums.f N a1 a2 a3 a4, fun r => .one (.c (.bool r)) [])
  | _, _ => none }
theorem parquetlaw10_ComposeSums.env (N : Nat) : EnvOK Try.prog (parquetlaw10_ComposeSums.E N) := ⟨(TyOK.cons ty2_ok (TyOK.cons ty21_ok (TyOK.cons ty23_ok TyOK.nil))), (TabOK.cons (parquetlaw10_within.ent_ok N) (TabOK.cons (compose_Power.ent_ok N) (TabOK.cons (compose_Compose.ent_ok N) (TabOK.cons (compose_Inverse.ent_ok N) (TabOK.cons (parquetlaw10_wakes.ent_ok N) TabOK.nil)))))⟩
theorem parquetlaw10_ComposeSums.res_eq (N : Nat) : (parquetlaw10_ComposeSums.E N).res = Try.f4.results.toList := by kernel_rfl
theorem parquetlaw10_ComposeSums.spec (N : Nat) (a1 : Int) (a2 : Int) (a3 : Int) (a4 : Int) (r : Bool) (h : parquetlaw10_ComposeSums.f N a1 a2 a3 a4 = some r) : FnSpec Try.prog 4 [.c (.int .u32 a1), .c (.int .u16 a2), .c (.int .i32 a3), .c (.int .i32 a4)] [] (.c (.bool r)) ([]) := by
  rw [← parquetlaw10_ComposeSums.f_eq] at h
  obtain ⟨v, bs', h1, h2⟩ := evFun_ok (parquetlaw10_ComposeSums.env N) Try_mixed Try.func4 (by kernel_rfl : Try.f4.body = some parquetlaw10_ComposeSums.body) (by kernel_rfl) (parquetlaw10_ComposeSums.res_eq N) (by kernel_rfl) (by kernel_rfl) (Nat.le_of_ble_eq_true (by kernel_rfl)) (AllCut.of (l := []) (by kernel_rfl) AllCut.nil) h
  unfold parquetlaw10_ComposeSums.dec at h1; split at h1
  · cases h1; exact h2
  · cases h1
theorem parquetlaw10_ComposeSums.ent_ok (N : Nat) : TabOK1 Try.prog 4 (parquetlaw10_ComposeSums.ent N) := by
  intro args bs a enc h
  simp only [parquetlaw10_ComposeSums.ent] at h
  split at h
  · rename_i hz; have h0 := Option.some.inj h; have h1 := congrArg Prod.fst h0; have h2 := congrArg Prod.snd h0; dsimp only at h1 h2; subst h2; exact FnSpec.of_freeze hz (parquetlaw10_ComposeSums.spec N _ _ _ _ a h1)
  · cases h
/-! parquet/parquetlaw10.value: function 18 -/
noncomputable def parquetlaw10_value.f (N : Nat) (a1 : Int) (a2 : Int) (a3 : Int) (a4 : Int) (a5 : Int) : Option (Int) :=
  some (wi64 ((wi64 ((wi64 ((wi64 (a1 * a4)) * a4)) + (wi64 ((wi64 (a2 * a4)) * a5)))) + (wi64 ((wi64 (a3 * a5)) * a5))))
noncomputable def parquetlaw10_value.body : Code := (Try.f18.body).getD .skip
noncomputable def parquetlaw10_value.ty : List (Nat × TI) := [(2, ty2), (23, ty23)]
noncomputable def parquetlaw10_value.E (N : Nat) : Env := { ty := lookN parquetlaw10_value.ty, tab := lookN [], hint := lookN [], cut := lookN [], N := N, res := [.tmp 6], rsh := [.any], nb := 0, ntmps := 27, own := false }
noncomputable def parquetlaw10_value.dec (v : V) (bs : List Blk) : Option (Int) := match v, bs with
  | .c (.int .i64 z0), [] => some z0
  | _, _ => none
set_option maxRecDepth 100000 in
theorem parquetlaw10_value.f_eq (N : Nat) (a1 : Int) (a2 : Int) (a3 : Int) (a4 : Int) (a5 : Int) :
    evFun (parquetlaw10_value.E N) parquetlaw10_value.body [.agg [.c (.int .i64 a1), .c (.int .i64 a2), .c (.int .i64 a3)], .c (.int .i64 a4), .c (.int .i64 a5)] [] parquetlaw10_value.dec = parquetlaw10_value.f N a1 a2 a3 a4 a5 := by kernel_rfl
noncomputable def parquetlaw10_value.ent (N : Nat) : Entry := { A := Int, fresh := 0, imm := [true, true, true], dec := fun args bs => match freezeL 0 (fun _ => .dead) [.recd [.any, .any, .any], .any, .any] args, bs with
  | some [.agg [.c (.int .i64 a1), .c (.int .i64 a2), .c (.int .i64 a3)], .c (.int .i64 a4), .c (.int .i64 a5)], [] => some (parquetlaw10_value.f N a1 a2 a3 a4 a5, fun r => .one (.c (.int .i64 r)) [])
  | _, _ => none }
theorem parquetlaw10_value.env (N : Nat) : EnvOK Try.prog (parquetlaw10_value.E N) := ⟨(TyOK.cons ty2_ok (TyOK.cons ty23_ok TyOK.nil)), TabOK.nil⟩
theorem parquetlaw10_value.res_eq (N : Nat) : (parquetlaw10_value.E N).res = Try.f18.results.toList := by kernel_rfl
theorem parquetlaw10_value.spec (N : Nat) (a1 : Int) (a2 : Int) (a3 : Int) (a4 : Int) (a5 : Int) (r : Int) (h : parquetlaw10_value.f N a1 a2 a3 a4 a5 = some r) : FnSpec Try.prog 18 [.agg [.c (.int .i64 a1), .c (.int .i64 a2), .c (.int .i64 a3)], .c (.int .i64 a4), .c (.int .i64 a5)] [] (.c (.int .i64 r)) ([]) := by
  rw [← parquetlaw10_value.f_eq] at h
  obtain ⟨v, bs', h1, h2⟩ := evFun_ok (parquetlaw10_value.env N) Try_mixed Try.func18 (by kernel_rfl : Try.f18.body = some parquetlaw10_value.body) (by kernel_rfl) (parquetlaw10_value.res_eq N) (by kernel_rfl) (by kernel_rfl) (Nat.le_of_ble_eq_true (by kernel_rfl)) (AllCut.of (l := []) (by kernel_rfl) AllCut.nil) h
  unfold parquetlaw10_value.dec at h1; split at h1
  · cases h1; exact h2
  · cases h1
theorem parquetlaw10_value.ent_ok (N : Nat) : TabOK1 Try.prog 18 (parquetlaw10_value.ent N) := by
  intro args bs a enc h
  simp only [parquetlaw10_value.ent] at h
  split at h
  · rename_i hz; have h0 := Option.some.inj h; have h1 := congrArg Prod.fst h0; have h2 := congrArg Prod.snd h0; dsimp only at h1 h2; subst h2; exact FnSpec.of_freeze hz (parquetlaw10_value.spec N _ _ _ _ _ a h1)
  · cases h
/-! parquet/binary.root: function 27 -/
noncomputable def binary_root.l5 {R : Type} (N : Nat) : Nat → Int → Int → Int → (Int → Int → Option R) → Option R
  | 0, _, _, _, _ => none
  | n + 1, x2, x3, x4, k0 =>
    bif decide (x4 > 0) then
      bif decide ((wi64 ((wi64 (x3 + x4)) * (wi64 (x3 + x4)))) ≤ x2) then
        binary_root.l5 N n x2 (wi64 (x3 + x4)) (Int.fdiv x4 (2 ^ 1)) k0
      else
      binary_root.l5 N n x2 x3 (Int.fdiv x4 (2 ^ 1)) k0
    else
    k0 x2 x3
noncomputable def binary_root.f (N : Nat) (a1 : Int) : Option (Int × Bool) :=
  bif decide (a1 < 0) then
    some (0, false)
  else
  binary_root.l5 N N a1 0 1073741824
    (fun y7 y8 =>
      some (y8, (wi64 (y8 * y8)) == y7))
noncomputable def binary_root.body : Code := (Try.f27.body).getD .skip
noncomputable def binary_root.ty : List (Nat × TI) := []
noncomputable def binary_root.h5 : Hint := ⟨[(0, .any), (4, .any), (5, .any)], [(0, .any), (4, .any)]⟩
noncomputable def binary_root.c5 (N : Nat) : Cut := ⟨fun vs H k => match vs, H with
  | [.c (.int .i64 x2), .c (.int .i64 x3), .c (.int .i64 x4)], [] => binary_root.l5 N N x2 x3 x4 (fun x5 x6 => k (.exit 0) ⟨mkT binary_root.h5.out [.c (.int .i64 x5), .c (.int .i64 x6)], []⟩)
  | _, _ => none⟩
noncomputable def binary_root.E (N : Nat) : Env := { ty := lookN binary_root.ty, tab := lookN [], hint := lookN [(5, binary_root.h5)], cut := lookN [(5, binary_root.c5 N)], N := N, res := [.tmp 2, .tmp 3], rsh := [.any, .any], nb := 0, ntmps := 30, own := false }
noncomputable def binary_root.b5 : Code := inner ((subLoops binary_root.body).getD 0 .skip)
set_option maxRecDepth 100000 in
theorem binary_root.l5_eq {R : Type} (N n : Nat) (x2 : Int) (x3 : Int) (x4 : Int) (k : Ex → St → Option R) :
    evLoop 0 binary_root.h5 (fun s k => evCode (binary_root.E N) 393 binary_root.b5 s k) n [.c (.int .i64 x2), .c (.int .i64 x3), .c (.int .i64 x4)] [] k = binary_root.l5 N n x2 x3 x4 (fun x5 x6 => k (.exit 0) ⟨mkT binary_root.h5.out [.c (.int .i64 x5), .c (.int .i64 x6)], []⟩) := by
  induction n generalizing x2 x3 x4 with
  | zero => kernel_rfl
  | succ n ih =>
    simp only [binary_root.l5, ← ih]
    kernel_rfl
noncomputable def binary_root.dec (v : V) (bs : List Blk) : Option (Int × Bool) := match v, bs with
  | .tup [.c (.int .i64 z0), .c (.bool z1)], [] => some (z0, z1)
  | _, _ => none
set_option maxRecDepth 100000 in
theorem binary_root.f_eq (N : Nat) (a1 : Int) :
    evFun (binary_root.E N) binary_root.body [.c (.int .i64 a1)] [] binary_root.dec = binary_root.f N a1 := by kernel_rfl
noncomputable def binary_root.ent (N : Nat) : Entry := { A := Int × Bool, fresh := 0, imm := [true], dec := fun args bs => match freezeL 0 (fun _ => .dead) [.any] args, bs with
  | some [.c (.int .i64 a1)], [] => some (binary_root.f N a1, fun r => .one (.tup [.c (.int .i64 r.1), .c (.bool r.2)]) [])
  | _, _ => none }
theorem binary_root.env (N : Nat) : EnvOK Try.prog (binary_root.E N) := ⟨TyOK.nil, TabOK.nil⟩
theorem binary_root.res_eq (N : Nat) : (binary_root.E N).res = Try.f27.results.toList := by kernel_rfl
theorem binary_root.k5 (N : Nat) : CutOK Try.prog Try.f27 (binary_root.E N) (.loop binary_root.b5) := by
  intro e hd he hh R vs H k r h
  have e1 : (binary_root.E N).cut (loopKey binary_root.b5) = some (binary_root.c5 N) := by kernel_rfl
  have e2 : (binary_root.E N).hint (loopKey binary_root.b5) = some binary_root.h5 := by kernel_rfl
  rw [e1] at he; rw [e2] at hh; cases he; cases hh
  unfold binary_root.c5 at h; dsimp only at h
  split at h
  · rw [← binary_root.l5_eq] at h
    exact loop_ok (evCode_ok (binary_root.env N) Try_mixed (binary_root.res_eq N) 393 binary_root.b5 (AllCut.of (l := []) (by kernel_rfl) AllCut.nil)) h
  · cases h
theorem binary_root.spec (N : Nat) (a1 : Int) (r : Int × Bool) (h : binary_root.f N a1 = some r) : FnSpec Try.prog 27 [.c (.int .i64 a1)] [] (.tup [.c (.int .i64 r.1), .c (.bool r.2)]) ([]) := by
  rw [← binary_root.f_eq] at h
  obtain ⟨v, bs', h1, h2⟩ := evFun_ok (binary_root.env N) Try_mixed Try.func27 (by kernel_rfl : Try.f27.body = some binary_root.body) (by kernel_rfl) (binary_root.res_eq N) (by kernel_rfl) (by kernel_rfl) (Nat.le_of_ble_eq_true (by kernel_rfl)) (AllCut.of (l := [(.loop (inner ((subLoops binary_root.body).getD 0 .skip)))]) (by kernel_rfl) (AllCut.cons (binary_root.k5 N) AllCut.nil)) h
  unfold binary_root.dec at h1; split at h1
  · cases h1; exact h2
  · cases h1
theorem binary_root.ent_ok (N : Nat) : TabOK1 Try.prog 27 (binary_root.ent N) := by
  intro args bs a enc h
  simp only [binary_root.ent] at h
  split at h
  · rename_i hz; have h0 := Option.some.inj h; have h1 := congrArg Prod.fst h0; have h2 := congrArg Prod.snd h0; dsimp only at h1 h2; subst h2; exact FnSpec.of_freeze hz (binary_root.spec N _ a h1)
  · cases h
/-! parquet/binary.Represents: function 19 -/
noncomputable def binary_Represents.l9 {R : Type} (N : Nat) : Nat → Int → Int → Int → Int → Int → Int → Int → Int → Int → Int → (Unit → Option R) → (Int → Int → Int → Option R) → Option R
  | 0, _, _, _, _, _, _, _, _, _, _, _, _ => none
  | n + 1, x7, x8, x9, x10, x11, x12, x13, x14, x15, x16, k1, kr =>
    bif decide ((wi64 ((wi64 ((wi64 (x8 * x9)) * x9)) + (wi64 ((wi64 (4 * x10)) * x7)))) < 0) then
      k1 ()
    else
    (binary_root.f N (wi64 ((wi64 ((wi64 (x8 * x9)) * x9)) + (wi64 ((wi64 (4 * x10)) * x7))))).bind fun r17 =>
    bif !r17.2 then
      binary_Represents.l9 N n x7 x8 (wi64 (x9 + 1)) x10 x11 x12 x13 x14 x15 x16 k1 kr
    else
    bif !((wi64 (2 * x10)) == 0) then
      bif (Int.tmod (wi64 (r17.1 - (wi64 (x11 * x9)))) (wi64 (2 * x10))) == 0 then
        bif !((wi64 (2 * x10)) == 0) then
          kr (wi64 ((wi64 (x13 * (wi64 (Int.tdiv (wi64 (r17.1 - (wi64 (x11 * x9)))) (wi64 (2 * x10)))))) + (wi64 (x14 * x9)))) (wi64 ((wi64 (x15 * (wi64 (Int.tdiv (wi64 (r17.1 - (wi64 (x11 * x9)))) (wi64 (2 * x10)))))) + (wi64 (x16 * x9)))) 0
        else none
      else
      bif !((wi64 (2 * x10)) == 0) then
        bif (Int.tmod (wi64 ((wi64 (0 - r17.1)) - (wi64 (x11 * x9)))) (wi64 (2 * x10))) == 0 then
          bif !((wi64 (2 * x10)) == 0) then
            kr (wi64 ((wi64 (x13 * (wi64 (Int.tdiv (wi64 ((wi64 (0 - r17.1)) - (wi64 (x11 * x9)))) (wi64 (2 * x10)))))) + (wi64 (x14 * x9)))) (wi64 ((wi64 (x15 * (wi64 (Int.tdiv (wi64 ((wi64 (0 - r17.1)) - (wi64 (x11 * x9)))) (wi64 (2 * x10)))))) + (wi64 (x16 * x9)))) 0
          else none
        else
        binary_Represents.l9 N n x7 x8 (wi64 (x9 + 1)) x10 x11 x12 x13 x14 x15 x16 k1 kr
      else none
    else none
noncomputable def binary_Represents.f (N : Nat) (a1 : Int) (a2 : Int) (a3 : Int) (a4 : Int) : Option (Int × Int × Int) :=
  (binary_Reduce.f N a1 a2 a3).bind fun r5 =>
  bif r5.2.2.2.2.2.2.2 != 0 then
    some (0, 0, r5.2.2.2.2.2.2.2)
  else
  bif decide (a4 < 1) then
    some (0, 0, 2)
  else
  bif decide (a4 > 1073741824) then
    some (0, 0, 2)
  else
  (binary_Disc.f N r5.1 r5.2.1 r5.2.2.1).bind fun r6 =>
  binary_Represents.l9 N N a4 r6 0 r5.1 r5.2.1 r5.2.2.1 r5.2.2.2.1 r5.2.2.2.2.1 r5.2.2.2.2.2.1 r5.2.2.2.2.2.2.1
    (fun (_ : Unit) =>
      some (0, 0, 41))
    (fun y21 y22 y23 =>
      some (y21, y22, y23))
noncomputable def binary_Represents.body : Code := (Try.f19.body).getD .skip
noncomputable def binary_Represents.ty : List (Nat × TI) := [(2, ty2), (23, ty23), (39, ty39), (58, ty58)]
noncomputable def binary_Represents.h9 : Hint := ⟨[(1, .any), (7, .box [.any, .any, .any]), (8, .box [.any, .any, .any, .any]), (9, .any), (10, .any)], []⟩
noncomputable def binary_Represents.h14 : Hint := ⟨[(1, .any), (7, .box [.any, .any, .any]), (8, .box [.any, .any, .any, .any]), (9, .any), (10, .any), (71, .recd [.any, .any]), (72, .any)], [(1, .any), (7, .any), (8, .any), (9, .any), (10, .any)]⟩
noncomputable def binary_Represents.c9 (N : Nat) : Cut := ⟨fun vs H k => match vs, H with
  | [.c (.int .i64 x7), .ptr 0 0 3, .ptr 1 0 4, .c (.int .i64 x8), .c (.int .i64 x9)], [.vals [.c (.int .i64 x10), .c (.int .i64 x11), .c (.int .i64 x12)], .vals [.c (.int .i64 x13), .c (.int .i64 x14), .c (.int .i64 x15), .c (.int .i64 x16)]] => binary_Represents.l9 N N x7 x8 x9 x10 x11 x12 x13 x14 x15 x16 (fun (_ : Unit) => k (.exit 1) ⟨mkT binary_Represents.h9.out [], []⟩) (fun x18 x19 x20 => k (.ret (.tup [.c (.int .i64 x18), .c (.int .i64 x19), .c (.int .i64 x20)]) []) .nil)
  | _, _ => none⟩
noncomputable def binary_Represents.E (N : Nat) : Env := { ty := lookN binary_Represents.ty, tab := lookN [(17, binary_Reduce.ent N), (15, binary_Disc.ent N), (27, binary_root.ent N)], hint := lookN [(9, binary_Represents.h9), (14, binary_Represents.h14)], cut := lookN [(9, binary_Represents.c9 N)], N := 40, res := [.tmp 4, .tmp 5, .tmp 6], rsh := [.any, .any, .any], nb := 0, ntmps := 105, own := false }
noncomputable def binary_Represents.b9 : Code := inner ((subLoops binary_Represents.body).getD 1 .skip)
set_option maxRecDepth 100000 in
theorem binary_Represents.l9_eq {R : Type} (N n : Nat) (x7 : Int) (x8 : Int) (x9 : Int) (x10 : Int) (x11 : Int) (x12 : Int) (x13 : Int) (x14 : Int) (x15 : Int) (x16 : Int) (k : Ex → St → Option R) :
    evLoop 0 binary_Represents.h9 (fun s k => evCode (binary_Represents.E N) 390 binary_Represents.b9 s k) n [.c (.int .i64 x7), .ptr 0 0 3, .ptr 1 0 4, .c (.int .i64 x8), .c (.int .i64 x9)] [.vals [.c (.int .i64 x10), .c (.int .i64 x11), .c (.int .i64 x12)], .vals [.c (.int .i64 x13), .c (.int .i64 x14), .c (.int .i64 x15), .c (.int .i64 x16)]] k = binary_Represents.l9 N n x7 x8 x9 x10 x11 x12 x13 x14 x15 x16 (fun (_ : Unit) => k (.exit 1) ⟨mkT binary_Represents.h9.out [], []⟩) (fun x18 x19 x20 => k (.ret (.tup [.c (.int .i64 x18), .c (.int .i64 x19), .c (.int .i64 x20)]) []) .nil) := by
  induction n generalizing x7 x8 x9 x10 x11 x12 x13 x14 x15 x16 with
  | zero => kernel_rfl
  | succ n ih =>
    simp only [binary_Represents.l9, ← ih]
    kernel_rfl
noncomputable def binary_Represents.dec (v : V) (bs : List Blk) : Option (Int × Int × Int) := match v, bs with
  | .tup [.c (.int .i64 z0), .c (.int .i64 z1), .c (.int .i64 z2)], [] => some (z0, z1, z2)
  | _, _ => none
set_option maxRecDepth 100000 in
theorem binary_Represents.f_eq (N : Nat) (a1 : Int) (a2 : Int) (a3 : Int) (a4 : Int) :
    evFun (binary_Represents.E N) binary_Represents.body [.agg [.c (.int .i64 a1), .c (.int .i64 a2), .c (.int .i64 a3)], .c (.int .i64 a4)] [] binary_Represents.dec = binary_Represents.f N a1 a2 a3 a4 := by kernel_rfl
noncomputable def binary_Represents.ent (N : Nat) : Entry := { A := Int × Int × Int, fresh := 0, imm := [true, true], dec := fun args bs => match freezeL 0 (fun _ => .dead) [.recd [.any, .any, .any], .any] args, bs with
  | some [.agg [.c (.int .i64 a1), .c (.int .i64 a2), .c (.int .i64 a3)], .c (.int .i64 a4)], [] => some (binary_Represents.f N a1 a2 a3 a4, fun r => .one (.tup [.c (.int .i64 r.1), .c (.int .i64 r.2.1), .c (.int .i64 r.2.2)]) [])
  | _, _ => none }
theorem binary_Represents.env (N : Nat) : EnvOK Try.prog (binary_Represents.E N) := ⟨(TyOK.cons ty2_ok (TyOK.cons ty23_ok (TyOK.cons ty39_ok (TyOK.cons ty58_ok TyOK.nil)))), (TabOK.cons (binary_Reduce.ent_ok N) (TabOK.cons (binary_Disc.ent_ok N) (TabOK.cons (binary_root.ent_ok N) TabOK.nil)))⟩
theorem binary_Represents.res_eq (N : Nat) : (binary_Represents.E N).res = Try.f19.results.toList := by kernel_rfl
theorem binary_Represents.k9 (N : Nat) : CutOK Try.prog Try.f19 (binary_Represents.E N) (.loop binary_Represents.b9) := by
  intro e hd he hh R vs H k r h
  have e1 : (binary_Represents.E N).cut (loopKey binary_Represents.b9) = some (binary_Represents.c9 N) := by kernel_rfl
  have e2 : (binary_Represents.E N).hint (loopKey binary_Represents.b9) = some binary_Represents.h9 := by kernel_rfl
  rw [e1] at he; rw [e2] at hh; cases he; cases hh
  unfold binary_Represents.c9 at h; dsimp only at h
  split at h
  · rw [← binary_Represents.l9_eq] at h
    exact loop_ok (evCode_ok (binary_Represents.env N) Try_mixed (binary_Represents.res_eq N) 390 binary_Represents.b9 (AllCut.of (l := [(.loop (inner ((subLoops binary_Represents.body).getD 2 .skip)))]) (by kernel_rfl) (AllCut.cons (cut_loop (by kernel_rfl)) AllCut.nil))) h
  · cases h
theorem binary_Represents.spec (N : Nat) (a1 : Int) (a2 : Int) (a3 : Int) (a4 : Int) (r : Int × Int × Int) (h : binary_Represents.f N a1 a2 a3 a4 = some r) : FnSpec Try.prog 19 [.agg [.c (.int .i64 a1), .c (.int .i64 a2), .c (.int .i64 a3)], .c (.int .i64 a4)] [] (.tup [.c (.int .i64 r.1), .c (.int .i64 r.2.1), .c (.int .i64 r.2.2)]) ([]) := by
  rw [← binary_Represents.f_eq] at h
  obtain ⟨v, bs', h1, h2⟩ := evFun_ok (binary_Represents.env N) Try_mixed Try.func19 (by kernel_rfl : Try.f19.body = some binary_Represents.body) (by kernel_rfl) (binary_Represents.res_eq N) (by kernel_rfl) (by kernel_rfl) (Nat.le_of_ble_eq_true (by kernel_rfl)) (AllCut.of (l := [(.scope (inner ((subLoops binary_Represents.body).getD 0 .skip))), (.loop (inner ((subLoops binary_Represents.body).getD 1 .skip))), (.loop (inner ((subLoops binary_Represents.body).getD 2 .skip)))]) (by kernel_rfl) (AllCut.cons (cut_scope (by kernel_rfl)) (AllCut.cons (binary_Represents.k9 N) (AllCut.cons (cut_loop (by kernel_rfl)) AllCut.nil)))) h
  unfold binary_Represents.dec at h1; split at h1
  · cases h1; exact h2
  · cases h1
theorem binary_Represents.ent_ok (N : Nat) : TabOK1 Try.prog 19 (binary_Represents.ent N) := by
  intro args bs a enc h
  simp only [binary_Represents.ent] at h
  split at h
  · rename_i hz; have h0 := Option.some.inj h; have h1 := congrArg Prod.fst h0; have h2 := congrArg Prod.snd h0; dsimp only at h1 h2; subst h2; exact FnSpec.of_freeze hz (binary_Represents.spec N _ _ _ _ a h1)
  · cases h
/-! parquet/parquetlaw10.ComposeValues: function 7 -/
noncomputable def parquetlaw10_ComposeValues.f (N : Nat) (a1 : Int) (a2 : Int) (a3 : Int) (a4 : Int) (a5 : Int) (a6 : Int) (a7 : Int) : Option (Bool) :=
  (parquetlaw10_within.f N a1 a2).bind fun r8 =>
  (binary_Reduce.f N r8.1 r8.2.1 r8.2.2).bind fun r9 =>
  (parquetlaw10_within.f N a1 a3).bind fun r10 =>
  (binary_Reduce.f N r10.1 r10.2.1 r10.2.2).bind fun r11 =>
  (compose_Compose.f N r9.1 r9.2.1 r9.2.2.1 r11.1 r11.2.1 r11.2.2.1).bind fun r12 =>
  (parquetlaw10_value.f N r9.1 r9.2.1 r9.2.2.1 (wi64 (Int.tmod a4 4)) (wi64 (Int.tmod a5 4))).bind fun r13 =>
  (parquetlaw10_value.f N r11.1 r11.2.1 r11.2.2.1 (wi64 (Int.tmod a6 4)) (wi64 (Int.tmod a7 4))).bind fun r14 =>
  bif r12.2.2.2 != 0 then
    some false
  else
  bif decide (r13 < 1) then
    (parquetlaw10_wakes.f N).bind fun r15 =>
    some r15
  else
  bif decide (r14 < 1) then
    (parquetlaw10_wakes.f N).bind fun r16 =>
    some r16
  else
  bif !(r14 == 0) then
    bif decide (r13 > (wi64 (Int.tdiv 1073741824 r14))) then
      (parquetlaw10_wakes.f N).bind fun r17 =>
      some r17
    else
    (binary_Represents.f N r12.1 r12.2.1 r12.2.2.1 (wi64 (r13 * r14))).bind fun r18 =>
    bif r18.2.2 == 0 then
      (parquetlaw10_value.f N r12.1 r12.2.1 r12.2.2.1 r18.1 r18.2.1).bind fun r19 =>
      bif r19 == (wi64 (r13 * r14)) then
        (parquetlaw10_wakes.f N).bind fun r20 =>
        some r20
      else
      some false
    else
    some false
  else none
noncomputable def parquetlaw10_ComposeValues.body : Code := (Try.f7.body).getD .skip
noncomputable def parquetlaw10_ComposeValues.ty : List (Nat × TI) := [(2, ty2), (23, ty23), (39, ty39), (43, ty43)]
noncomputable def parquetlaw10_ComposeValues.E (N : Nat) : Env := { ty := lookN parquetlaw10_ComposeValues.ty, tab := lookN [(11, parquetlaw10_within.ent N), (17, binary_Reduce.ent N), (13, compose_Compose.ent N), (18, parquetlaw10_value.ent N), (10, parquetlaw10_wakes.ent N), (19, binary_Represents.ent N)], hint := lookN [], cut := lookN [], N := N, res := [.tmp 14], rsh := [.any], nb := 0, ntmps := 105, own := false }
noncomputable def parquetlaw10_ComposeValues.dec (v : V) (bs : List Blk) : Option (Bool) := match v, bs with
  | .c (.bool z0), [] => some z0
  | _, _ => none
set_option maxRecDepth 100000 in
theorem parquetlaw10_ComposeValues.f_eq (N : Nat) (a1 : Int) (a2 : Int) (a3 : Int) (a4 : Int) (a5 : Int) (a6 : Int) (a7 : Int) :
    evFun (parquetlaw10_ComposeValues.E N) parquetlaw10_ComposeValues.body [.c (.int .u32 a1), .c (.int .u16 a2), .c (.int .u16 a3), .c (.int .i8 a4), .c (.int .i8 a5), .c (.int .i8 a6), .c (.int .i8 a7)] [] parquetlaw10_ComposeValues.dec = parquetlaw10_ComposeValues.f N a1 a2 a3 a4 a5 a6 a7 := by kernel_rfl
noncomputable def parquetlaw10_ComposeValues.ent (N : Nat) : Entry := { A := Bool, fresh := 0, imm := [true, true, true, true, true, true, true], dec := fun args bs => match freezeL 0 (fun _ => .dead) [.any, .any, .any, .any, .any, .any, .any] args, bs with
  | some [.c (.int .u32 a1), .c (.int .u16 a2), .c (.int .u16 a3), .c (.int .i8 a4), .c (.int .i8 a5), .c (.int .i8 a6), .c (.int .i8 a7)], [] => some (parquetlaw10_ComposeValues.f N a1 a2 a3 a4 a5 a6 a7, fun r => .one (.c (.bool r)) [])
  | _, _ => none }
theorem parquetlaw10_ComposeValues.env (N : Nat) : EnvOK Try.prog (parquetlaw10_ComposeValues.E N) := ⟨(TyOK.cons ty2_ok (TyOK.cons ty23_ok (TyOK.cons ty39_ok (TyOK.cons ty43_ok TyOK.nil)))), (TabOK.cons (parquetlaw10_within.ent_ok N) (TabOK.cons (binary_Reduce.ent_ok N) (TabOK.cons (compose_Compose.ent_ok N) (TabOK.cons (parquetlaw10_value.ent_ok N) (TabOK.cons (parquetlaw10_wakes.ent_ok N) (TabOK.cons (binary_Represents.ent_ok N) TabOK.nil))))))⟩
theorem parquetlaw10_ComposeValues.res_eq (N : Nat) : (parquetlaw10_ComposeValues.E N).res = Try.f7.results.toList := by kernel_rfl
theorem parquetlaw10_ComposeValues.spec (N : Nat) (a1 : Int) (a2 : Int) (a3 : Int) (a4 : Int) (a5 : Int) (a6 : Int) (a7 : Int) (r : Bool) (h : parquetlaw10_ComposeValues.f N a1 a2 a3 a4 a5 a6 a7 = some r) : FnSpec Try.prog 7 [.c (.int .u32 a1), .c (.int .u16 a2), .c (.int .u16 a3), .c (.int .i8 a4), .c (.int .i8 a5), .c (.int .i8 a6), .c (.int .i8 a7)] [] (.c (.bool r)) ([]) := by
  rw [← parquetlaw10_ComposeValues.f_eq] at h
  obtain ⟨v, bs', h1, h2⟩ := evFun_ok (parquetlaw10_ComposeValues.env N) Try_mixed Try.func7 (by kernel_rfl : Try.f7.body = some parquetlaw10_ComposeValues.body) (by kernel_rfl) (parquetlaw10_ComposeValues.res_eq N) (by kernel_rfl) (by kernel_rfl) (Nat.le_of_ble_eq_true (by kernel_rfl)) (AllCut.of (l := []) (by kernel_rfl) AllCut.nil) h
  unfold parquetlaw10_ComposeValues.dec at h1; split at h1
  · cases h1; exact h2
  · cases h1
theorem parquetlaw10_ComposeValues.ent_ok (N : Nat) : TabOK1 Try.prog 7 (parquetlaw10_ComposeValues.ent N) := by
  intro args bs a enc h
  simp only [parquetlaw10_ComposeValues.ent] at h
  split at h
  · rename_i hz; have h0 := Option.some.inj h; have h1 := congrArg Prod.fst h0; have h2 := congrArg Prod.snd h0; dsimp only at h1 h2; subst h2; exact FnSpec.of_freeze hz (parquetlaw10_ComposeValues.spec N _ _ _ _ _ _ _ a h1)
  · cases h
/-! parquet/parquetlaw10.ComposeKnown: function 6 -/
noncomputable def parquetlaw10_ComposeKnown.l16 {R : Type} (N : Nat) : Nat → Bool → Int → Int → Int → Int → Int → (Bool → Int → Int → Int → Int → Option R) → (Bool → Option R) → Option R
  | 0, _, _, _, _, _, _, _, _ => none
  | n + 1, x14, x15, x16, x17, x18, x19, k2, kr =>
    bif decide (x16 < 24) then
      (parquetlaw10_within.f N x15 (wu16 (x16 * 9))).bind fun r20 =>
      (parquetlaw10_within.f N x15 (wu16 ((wu16 (x16 * 31)) + 5))).bind fun r21 =>
      (compose_Compose.f N r20.1 r20.2.1 r20.2.2 r21.1 r21.2.1 r21.2.2).bind fun r22 =>
      bif r22.2.2.2 != 0 then
        kr false
      else
      (binary_Reduced.f N r22.1 r22.2.1 r22.2.2.1).bind fun r24 =>
      bif !r24 then
        kr false
      else
      parquetlaw10_ComposeKnown.l16 N n x14 x15 (wu16 (x16 + 1)) x17 x18 x19 k2 kr
    else
    k2 x14 x15 x17 x18 x19
noncomputable def parquetlaw10_ComposeKnown.l13 {R : Type} (N : Nat) : Nat → Bool → Int → Int → Int → Int → (Bool → Int → Int → Int → Option R) → (Bool → Option R) → Option R
  | 0, _, _, _, _, _, _, _ => none
  | n + 1, x9, x10, x11, x12, x13, k0, kr =>
    bif decide (x10 < 300) then
      parquetlaw10_ComposeKnown.l16 N N x9 x10 0 x11 x12 x13
        (fun y30 y31 y32 y33 y34 =>
          parquetlaw10_ComposeKnown.l13 N n y30 (wu32 (y31 + 1)) y32 y33 y34 k0 kr)
        (fun y35 =>
          kr y35)
    else
    k0 x9 x11 x12 x13
noncomputable def parquetlaw10_ComposeKnown.f (N : Nat) : Option (Bool) :=
  (compose_One.f N (-23)).bind fun r1 =>
  (compose_One.f N (-4)).bind fun r2 =>
  (compose_One.f N (-5)).bind fun r3 =>
  (compose_One.f N (-4294967300)).bind fun r4 =>
  (compose_One.f N 5).bind fun r5 =>
  (compose_One.f N (-4294967296)).bind fun r6 =>
  bif (r1.1 == 1) && ((r1.2.1 == 1) && (r1.2.2.1 == 6)) then
    bif (r2.1 == 1) && ((r2.2.1 == 0) && (r2.2.2.1 == 1)) then
      bif r3.2.2.2 == 80 then
        bif r4.2.2.2 == 80 then
          bif r5.2.2.2 == 80 then
            bif r6.2.2.2 == 0 then
              (compose_One.f N (-3)).bind fun r7 =>
              (compose_Compose.f N 3 0 7 2 2 11).bind fun r8 =>
              bif !((r7.1 == 1) && ((r7.2.1 == 1) && (r7.2.2.1 == 1))) then
                some false
              else
              bif !((r8.1 == 5) && ((r8.2.1 == 4) && (r8.2.2.1 == 5))) then
                some false
              else
              parquetlaw10_ComposeKnown.l13 N N (r6.2.2.1 == 1073741824) 0 r1.1 r1.2.1 r1.2.2.1
                (fun y41 y42 y43 y44 =>
                  (compose_Compose.f N 2 1 3 2 (-1) 3).bind fun r45 =>
                  (compose_Inverse.f N 2 1 3).bind fun r46 =>
                  (compose_Compose.f N 2 2 4 1 0 7).bind fun r47 =>
                  (compose_Compose.f N 1 0 1 1 1 1).bind fun r48 =>
                  (compose_Compose.f N 2 0 2 1 0 1073741825).bind fun r49 =>
                  (compose_Power.f N 2 1 3 (-1)).bind fun r50 =>
                  (compose_Power.f N 2 1 3 (-9223372036854775808)).bind fun r51 =>
                  bif y41 then
                    bif (r45.1 == y42) && ((r45.2.1 == y43) && (r45.2.2.1 == y44)) then
                      bif (r46.1 == 2) && ((r46.2.1 == (-1)) && (r46.2.2.1 == 3)) then
                        bif r47.2.2.2 == 81 then
                          bif r48.2.2.2 == 100 then
                            bif r49.2.2.2 == 3 then
                              bif (r50.1 == 2) && ((r50.2.1 == (-1)) && (r50.2.2.1 == 3)) then
                                bif r51.2.2.2 == 0 then
                                  bif (r51.1 == 2) && ((r51.2.1 == 1) && (r51.2.2.1 == 3)) then
                                    (parquetlaw10_wakes.f N).bind fun r52 =>
                                    some r52
                                  else
                                  some false
                                else
                                some false
                              else
                              some false
                            else
                            some false
                          else
                          some false
                        else
                        some false
                      else
                      some false
                    else
                    some false
                  else
                  some false)
                (fun y53 =>
                  some y53)
            else
            (compose_One.f N (-3)).bind fun r54 =>
            (compose_Compose.f N 3 0 7 2 2 11).bind fun r55 =>
            bif !((r54.1 == 1) && ((r54.2.1 == 1) && (r54.2.2.1 == 1))) then
              some false
            else
            bif !((r55.1 == 5) && ((r55.2.1 == 4) && (r55.2.2.1 == 5))) then
              some false
            else
            parquetlaw10_ComposeKnown.l13 N N false 0 r1.1 r1.2.1 r1.2.2.1
              (fun y56 y57 y58 y59 =>
                (compose_Compose.f N 2 1 3 2 (-1) 3).bind fun r60 =>
                (compose_Inverse.f N 2 1 3).bind fun r61 =>
                (compose_Compose.f N 2 2 4 1 0 7).bind fun r62 =>
                (compose_Compose.f N 1 0 1 1 1 1).bind fun r63 =>
                (compose_Compose.f N 2 0 2 1 0 1073741825).bind fun r64 =>
                (compose_Power.f N 2 1 3 (-1)).bind fun r65 =>
                (compose_Power.f N 2 1 3 (-9223372036854775808)).bind fun r66 =>
                bif y56 then
                  bif (r60.1 == y57) && ((r60.2.1 == y58) && (r60.2.2.1 == y59)) then
                    bif (r61.1 == 2) && ((r61.2.1 == (-1)) && (r61.2.2.1 == 3)) then
                      bif r62.2.2.2 == 81 then
                        bif r63.2.2.2 == 100 then
                          bif r64.2.2.2 == 3 then
                            bif (r65.1 == 2) && ((r65.2.1 == (-1)) && (r65.2.2.1 == 3)) then
                              bif r66.2.2.2 == 0 then
                                bif (r66.1 == 2) && ((r66.2.1 == 1) && (r66.2.2.1 == 3)) then
                                  (parquetlaw10_wakes.f N).bind fun r67 =>
                                  some r67
                                else
                                some false
                              else
                              some false
                            else
                            some false
                          else
                          some false
                        else
                        some false
                      else
                      some false
                    else
                    some false
                  else
                  some false
                else
                some false)
              (fun y68 =>
                some y68)
          else
          (compose_One.f N (-3)).bind fun r69 =>
          (compose_Compose.f N 3 0 7 2 2 11).bind fun r70 =>
          bif !((r69.1 == 1) && ((r69.2.1 == 1) && (r69.2.2.1 == 1))) then
            some false
          else
          bif !((r70.1 == 5) && ((r70.2.1 == 4) && (r70.2.2.1 == 5))) then
            some false
          else
          parquetlaw10_ComposeKnown.l13 N N false 0 r1.1 r1.2.1 r1.2.2.1
            (fun y71 y72 y73 y74 =>
              (compose_Compose.f N 2 1 3 2 (-1) 3).bind fun r75 =>
              (compose_Inverse.f N 2 1 3).bind fun r76 =>
              (compose_Compose.f N 2 2 4 1 0 7).bind fun r77 =>
              (compose_Compose.f N 1 0 1 1 1 1).bind fun r78 =>
              (compose_Compose.f N 2 0 2 1 0 1073741825).bind fun r79 =>
              (compose_Power.f N 2 1 3 (-1)).bind fun r80 =>
              (compose_Power.f N 2 1 3 (-9223372036854775808)).bind fun r81 =>
              bif y71 then
                bif (r75.1 == y72) && ((r75.2.1 == y73) && (r75.2.2.1 == y74)) then
                  bif (r76.1 == 2) && ((r76.2.1 == (-1)) && (r76.2.2.1 == 3)) then
                    bif r77.2.2.2 == 81 then
                      bif r78.2.2.2 == 100 then
                        bif r79.2.2.2 == 3 then
                          bif (r80.1 == 2) && ((r80.2.1 == (-1)) && (r80.2.2.1 == 3)) then
                            bif r81.2.2.2 == 0 then
                              bif (r81.1 == 2) && ((r81.2.1 == 1) && (r81.2.2.1 == 3)) then
                                (parquetlaw10_wakes.f N).bind fun r82 =>
                                some r82
                              else
                              some false
                            else
                            some false
                          else
                          some false
                        else
                        some false
                      else
                      some false
                    else
                    some false
                  else
                  some false
                else
                some false
              else
              some false)
            (fun y83 =>
              some y83)
        else
        (compose_One.f N (-3)).bind fun r84 =>
        (compose_Compose.f N 3 0 7 2 2 11).bind fun r85 =>
        bif !((r84.1 == 1) && ((r84.2.1 == 1) && (r84.2.2.1 == 1))) then
          some false
        else
        bif !((r85.1 == 5) && ((r85.2.1 == 4) && (r85.2.2.1 == 5))) then
          some false
        else
        parquetlaw10_ComposeKnown.l13 N N false 0 r1.1 r1.2.1 r1.2.2.1
          (fun y86 y87 y88 y89 =>
            (compose_Compose.f N 2 1 3 2 (-1) 3).bind fun r90 =>
            (compose_Inverse.f N 2 1 3).bind fun r91 =>
            (compose_Compose.f N 2 2 4 1 0 7).bind fun r92 =>
            (compose_Compose.f N 1 0 1 1 1 1).bind fun r93 =>
            (compose_Compose.f N 2 0 2 1 0 1073741825).bind fun r94 =>
            (compose_Power.f N 2 1 3 (-1)).bind fun r95 =>
            (compose_Power.f N 2 1 3 (-9223372036854775808)).bind fun r96 =>
            bif y86 then
              bif (r90.1 == y87) && ((r90.2.1 == y88) && (r90.2.2.1 == y89)) then
                bif (r91.1 == 2) && ((r91.2.1 == (-1)) && (r91.2.2.1 == 3)) then
                  bif r92.2.2.2 == 81 then
                    bif r93.2.2.2 == 100 then
                      bif r94.2.2.2 == 3 then
                        bif (r95.1 == 2) && ((r95.2.1 == (-1)) && (r95.2.2.1 == 3)) then
                          bif r96.2.2.2 == 0 then
                            bif (r96.1 == 2) && ((r96.2.1 == 1) && (r96.2.2.1 == 3)) then
                              (parquetlaw10_wakes.f N).bind fun r97 =>
                              some r97
                            else
                            some false
                          else
                          some false
                        else
                        some false
                      else
                      some false
                    else
                    some false
                  else
                  some false
                else
                some false
              else
              some false
            else
            some false)
          (fun y98 =>
            some y98)
      else
      (compose_One.f N (-3)).bind fun r99 =>
      (compose_Compose.f N 3 0 7 2 2 11).bind fun r100 =>
      bif !((r99.1 == 1) && ((r99.2.1 == 1) && (r99.2.2.1 == 1))) then
        some false
      else
      bif !((r100.1 == 5) && ((r100.2.1 == 4) && (r100.2.2.1 == 5))) then
        some false
      else
      parquetlaw10_ComposeKnown.l13 N N false 0 r1.1 r1.2.1 r1.2.2.1
        (fun y101 y102 y103 y104 =>
          (compose_Compose.f N 2 1 3 2 (-1) 3).bind fun r105 =>
          (compose_Inverse.f N 2 1 3).bind fun r106 =>
          (compose_Compose.f N 2 2 4 1 0 7).bind fun r107 =>
          (compose_Compose.f N 1 0 1 1 1 1).bind fun r108 =>
          (compose_Compose.f N 2 0 2 1 0 1073741825).bind fun r109 =>
          (compose_Power.f N 2 1 3 (-1)).bind fun r110 =>
          (compose_Power.f N 2 1 3 (-9223372036854775808)).bind fun r111 =>
          bif y101 then
            bif (r105.1 == y102) && ((r105.2.1 == y103) && (r105.2.2.1 == y104)) then
              bif (r106.1 == 2) && ((r106.2.1 == (-1)) && (r106.2.2.1 == 3)) then
                bif r107.2.2.2 == 81 then
                  bif r108.2.2.2 == 100 then
                    bif r109.2.2.2 == 3 then
                      bif (r110.1 == 2) && ((r110.2.1 == (-1)) && (r110.2.2.1 == 3)) then
                        bif r111.2.2.2 == 0 then
                          bif (r111.1 == 2) && ((r111.2.1 == 1) && (r111.2.2.1 == 3)) then
                            (parquetlaw10_wakes.f N).bind fun r112 =>
                            some r112
                          else
                          some false
                        else
                        some false
                      else
                      some false
                    else
                    some false
                  else
                  some false
                else
                some false
              else
              some false
            else
            some false
          else
          some false)
        (fun y113 =>
          some y113)
    else
    (compose_One.f N (-3)).bind fun r114 =>
    (compose_Compose.f N 3 0 7 2 2 11).bind fun r115 =>
    bif !((r114.1 == 1) && ((r114.2.1 == 1) && (r114.2.2.1 == 1))) then
      some false
    else
    bif !((r115.1 == 5) && ((r115.2.1 == 4) && (r115.2.2.1 == 5))) then
      some false
    else
    parquetlaw10_ComposeKnown.l13 N N false 0 r1.1 r1.2.1 r1.2.2.1
      (fun y116 y117 y118 y119 =>
        (compose_Compose.f N 2 1 3 2 (-1) 3).bind fun r120 =>
        (compose_Inverse.f N 2 1 3).bind fun r121 =>
        (compose_Compose.f N 2 2 4 1 0 7).bind fun r122 =>
        (compose_Compose.f N 1 0 1 1 1 1).bind fun r123 =>
        (compose_Compose.f N 2 0 2 1 0 1073741825).bind fun r124 =>
        (compose_Power.f N 2 1 3 (-1)).bind fun r125 =>
        (compose_Power.f N 2 1 3 (-9223372036854775808)).bind fun r126 =>
        bif y116 then
          bif (r120.1 == y117) && ((r120.2.1 == y118) && (r120.2.2.1 == y119)) then
            bif (r121.1 == 2) && ((r121.2.1 == (-1)) && (r121.2.2.1 == 3)) then
              bif r122.2.2.2 == 81 then
                bif r123.2.2.2 == 100 then
                  bif r124.2.2.2 == 3 then
                    bif (r125.1 == 2) && ((r125.2.1 == (-1)) && (r125.2.2.1 == 3)) then
                      bif r126.2.2.2 == 0 then
                        bif (r126.1 == 2) && ((r126.2.1 == 1) && (r126.2.2.1 == 3)) then
                          (parquetlaw10_wakes.f N).bind fun r127 =>
                          some r127
                        else
                        some false
                      else
                      some false
                    else
                    some false
                  else
                  some false
                else
                some false
              else
              some false
            else
            some false
          else
          some false
        else
        some false)
      (fun y128 =>
        some y128)
  else
  (compose_One.f N (-3)).bind fun r129 =>
  (compose_Compose.f N 3 0 7 2 2 11).bind fun r130 =>
  bif !((r129.1 == 1) && ((r129.2.1 == 1) && (r129.2.2.1 == 1))) then
    some false
  else
  bif !((r130.1 == 5) && ((r130.2.1 == 4) && (r130.2.2.1 == 5))) then
    some false
  else
  parquetlaw10_ComposeKnown.l13 N N false 0 r1.1 r1.2.1 r1.2.2.1
    (fun y131 y132 y133 y134 =>
      (compose_Compose.f N 2 1 3 2 (-1) 3).bind fun r135 =>
      (compose_Inverse.f N 2 1 3).bind fun r136 =>
      (compose_Compose.f N 2 2 4 1 0 7).bind fun r137 =>
      (compose_Compose.f N 1 0 1 1 1 1).bind fun r138 =>
      (compose_Compose.f N 2 0 2 1 0 1073741825).bind fun r139 =>
      (compose_Power.f N 2 1 3 (-1)).bind fun r140 =>
      (compose_Power.f N 2 1 3 (-9223372036854775808)).bind fun r141 =>
      bif y131 then
        bif (r135.1 == y132) && ((r135.2.1 == y133) && (r135.2.2.1 == y134)) then
          bif (r136.1 == 2) && ((r136.2.1 == (-1)) && (r136.2.2.1 == 3)) then
            bif r137.2.2.2 == 81 then
              bif r138.2.2.2 == 100 then
                bif r139.2.2.2 == 3 then
                  bif (r140.1 == 2) && ((r140.2.1 == (-1)) && (r140.2.2.1 == 3)) then
                    bif r141.2.2.2 == 0 then
                      bif (r141.1 == 2) && ((r141.2.1 == 1) && (r141.2.2.1 == 3)) then
                        (parquetlaw10_wakes.f N).bind fun r142 =>
                        some r142
                      else
                      some false
                    else
                    some false
                  else
                  some false
                else
                some false
              else
              some false
            else
            some false
          else
          some false
        else
        some false
      else
      some false)
    (fun y143 =>
      some y143)
noncomputable def parquetlaw10_ComposeKnown.body : Code := (Try.f6.body).getD .skip
noncomputable def parquetlaw10_ComposeKnown.ty : List (Nat × TI) := [(2, ty2), (23, ty23)]
noncomputable def parquetlaw10_ComposeKnown.h13 : Hint := ⟨[(1, .box [.any, .any, .any]), (13, .any), (18, .any)], [(1, .box [.any, .any, .any]), (13, .any)]⟩
noncomputable def parquetlaw10_ComposeKnown.h16 : Hint := ⟨[(1, .box [.any, .any, .any]), (13, .any), (18, .any), (19, .any)], [(1, .box [.any, .any, .any]), (13, .any), (18, .any)]⟩
noncomputable def parquetlaw10_ComposeKnown.c16 (N : Nat) : Cut := ⟨fun vs H k => match vs, H with
  | [.ptr 0 0 3, .c (.bool x14), .c (.int .u32 x15), .c (.int .u16 x16)], [.vals [.c (.int .i64 x17), .c (.int .i64 x18), .c (.int .i64 x19)]] => parquetlaw10_ComposeKnown.l16 N N x14 x15 x16 x17 x18 x19 (fun x25 x26 x27 x28 x29 => k (.exit 2) ⟨mkT parquetlaw10_ComposeKnown.h16.out [.ptr 0 0 3, .c (.bool x25), .c (.int .u32 x26)], [.vals [.c (.int .i64 x27), .c (.int .i64 x28), .c (.int .i64 x29)]]⟩) (fun x23 => k (.ret (.c (.bool x23)) []) .nil)
  | _, _ => none⟩
noncomputable def parquetlaw10_ComposeKnown.c13 (N : Nat) : Cut := ⟨fun vs H k => match vs, H with
  | [.ptr 0 0 3, .c (.bool x9), .c (.int .u32 x10)], [.vals [.c (.int .i64 x11), .c (.int .i64 x12), .c (.int .i64 x13)]] => parquetlaw10_ComposeKnown.l13 N N x9 x10 x11 x12 x13 (fun x37 x38 x39 x40 => k (.exit 0) ⟨mkT parquetlaw10_ComposeKnown.h13.out [.ptr 0 0 3, .c (.bool x37)], [.vals [.c (.int .i64 x38), .c (.int .i64 x39), .c (.int .i64 x40)]]⟩) (fun x36 => k (.ret (.c (.bool x36)) []) .nil)
  | _, _ => none⟩
noncomputable def parquetlaw10_ComposeKnown.E (N : Nat) : Env := { ty := lookN parquetlaw10_ComposeKnown.ty, tab := lookN [(8, compose_One.ent N), (13, compose_Compose.ent N), (11, parquetlaw10_within.ent N), (16, binary_Reduced.ent N), (14, compose_Inverse.ent N), (12, compose_Power.ent N), (10, parquetlaw10_wakes.ent N)], hint := lookN [(13, parquetlaw10_ComposeKnown.h13), (16, parquetlaw10_ComposeKnown.h16)], cut := lookN [(16, parquetlaw10_ComposeKnown.c16 N), (13, parquetlaw10_ComposeKnown.c13 N)], N := N, res := [.tmp 0], rsh := [.any], nb := 0, ntmps := 218, own := false }
noncomputable def parquetlaw10_ComposeKnown.b16 : Code := inner ((subLoops parquetlaw10_ComposeKnown.body).getD 1 .skip)
set_option maxRecDepth 100000 in
theorem parquetlaw10_ComposeKnown.l16_eq {R : Type} (N n : Nat) (x14 : Bool) (x15 : Int) (x16 : Int) (x17 : Int) (x18 : Int) (x19 : Int) (k : Ex → St → Option R) :
    evLoop 0 parquetlaw10_ComposeKnown.h16 (fun s k => evCode (parquetlaw10_ComposeKnown.E N) 379 parquetlaw10_ComposeKnown.b16 s k) n [.ptr 0 0 3, .c (.bool x14), .c (.int .u32 x15), .c (.int .u16 x16)] [.vals [.c (.int .i64 x17), .c (.int .i64 x18), .c (.int .i64 x19)]] k = parquetlaw10_ComposeKnown.l16 N n x14 x15 x16 x17 x18 x19 (fun x25 x26 x27 x28 x29 => k (.exit 2) ⟨mkT parquetlaw10_ComposeKnown.h16.out [.ptr 0 0 3, .c (.bool x25), .c (.int .u32 x26)], [.vals [.c (.int .i64 x27), .c (.int .i64 x28), .c (.int .i64 x29)]]⟩) (fun x23 => k (.ret (.c (.bool x23)) []) .nil) := by
  induction n generalizing x14 x15 x16 x17 x18 x19 with
  | zero => kernel_rfl
  | succ n ih =>
    simp only [parquetlaw10_ComposeKnown.l16, ← ih]
    kernel_rfl
noncomputable def parquetlaw10_ComposeKnown.b13 : Code := inner ((subLoops parquetlaw10_ComposeKnown.body).getD 0 .skip)
set_option maxRecDepth 100000 in
theorem parquetlaw10_ComposeKnown.l13_eq {R : Type} (N n : Nat) (x9 : Bool) (x10 : Int) (x11 : Int) (x12 : Int) (x13 : Int) (k : Ex → St → Option R) :
    evLoop 0 parquetlaw10_ComposeKnown.h13 (fun s k => evCode (parquetlaw10_ComposeKnown.E N) 385 parquetlaw10_ComposeKnown.b13 s k) n [.ptr 0 0 3, .c (.bool x9), .c (.int .u32 x10)] [.vals [.c (.int .i64 x11), .c (.int .i64 x12), .c (.int .i64 x13)]] k = parquetlaw10_ComposeKnown.l13 N n x9 x10 x11 x12 x13 (fun x37 x38 x39 x40 => k (.exit 0) ⟨mkT parquetlaw10_ComposeKnown.h13.out [.ptr 0 0 3, .c (.bool x37)], [.vals [.c (.int .i64 x38), .c (.int .i64 x39), .c (.int .i64 x40)]]⟩) (fun x36 => k (.ret (.c (.bool x36)) []) .nil) := by
  induction n generalizing x9 x10 x11 x12 x13 with
  | zero => kernel_rfl
  | succ n ih =>
    simp only [parquetlaw10_ComposeKnown.l13, ← ih]
    kernel_rfl
noncomputable def parquetlaw10_ComposeKnown.dec (v : V) (bs : List Blk) : Option (Bool) := match v, bs with
  | .c (.bool z0), [] => some z0
  | _, _ => none
set_option maxRecDepth 100000 in
theorem parquetlaw10_ComposeKnown.f_eq (N : Nat) :
    evFun (parquetlaw10_ComposeKnown.E N) parquetlaw10_ComposeKnown.body [] [] parquetlaw10_ComposeKnown.dec = parquetlaw10_ComposeKnown.f N := by kernel_rfl
noncomputable def parquetlaw10_ComposeKnown.ent (N : Nat) : Entry := { A := Bool, fresh := 0, imm := [], dec := fun args bs => match freezeL 0 (fun _ => .dead) [] args, bs with
  | some [], [] => some (parquetlaw10_ComposeKnown.f N, fun r => .one (.c (.bool r)) [])
  | _, _ => none }
theorem parquetlaw10_ComposeKnown.env (N : Nat) : EnvOK Try.prog (parquetlaw10_ComposeKnown.E N) := ⟨(TyOK.cons ty2_ok (TyOK.cons ty23_ok TyOK.nil)), (TabOK.cons (compose_One.ent_ok N) (TabOK.cons (compose_Compose.ent_ok N) (TabOK.cons (parquetlaw10_within.ent_ok N) (TabOK.cons (binary_Reduced.ent_ok N) (TabOK.cons (compose_Inverse.ent_ok N) (TabOK.cons (compose_Power.ent_ok N) (TabOK.cons (parquetlaw10_wakes.ent_ok N) TabOK.nil)))))))⟩
theorem parquetlaw10_ComposeKnown.res_eq (N : Nat) : (parquetlaw10_ComposeKnown.E N).res = Try.f6.results.toList := by kernel_rfl
theorem parquetlaw10_ComposeKnown.k16 (N : Nat) : CutOK Try.prog Try.f6 (parquetlaw10_ComposeKnown.E N) (.loop parquetlaw10_ComposeKnown.b16) := by
  intro e hd he hh R vs H k r h
  have e1 : (parquetlaw10_ComposeKnown.E N).cut (loopKey parquetlaw10_ComposeKnown.b16) = some (parquetlaw10_ComposeKnown.c16 N) := by kernel_rfl
  have e2 : (parquetlaw10_ComposeKnown.E N).hint (loopKey parquetlaw10_ComposeKnown.b16) = some parquetlaw10_ComposeKnown.h16 := by kernel_rfl
  rw [e1] at he; rw [e2] at hh; cases he; cases hh
  unfold parquetlaw10_ComposeKnown.c16 at h; dsimp only at h
  split at h
  · rw [← parquetlaw10_ComposeKnown.l16_eq] at h
    exact loop_ok (evCode_ok (parquetlaw10_ComposeKnown.env N) Try_mixed (parquetlaw10_ComposeKnown.res_eq N) 379 parquetlaw10_ComposeKnown.b16 (AllCut.of (l := []) (by kernel_rfl) AllCut.nil)) h
  · cases h
theorem parquetlaw10_ComposeKnown.k13 (N : Nat) : CutOK Try.prog Try.f6 (parquetlaw10_ComposeKnown.E N) (.loop parquetlaw10_ComposeKnown.b13) := by
  intro e hd he hh R vs H k r h
  have e1 : (parquetlaw10_ComposeKnown.E N).cut (loopKey parquetlaw10_ComposeKnown.b13) = some (parquetlaw10_ComposeKnown.c13 N) := by kernel_rfl
  have e2 : (parquetlaw10_ComposeKnown.E N).hint (loopKey parquetlaw10_ComposeKnown.b13) = some parquetlaw10_ComposeKnown.h13 := by kernel_rfl
  rw [e1] at he; rw [e2] at hh; cases he; cases hh
  unfold parquetlaw10_ComposeKnown.c13 at h; dsimp only at h
  split at h
  · rw [← parquetlaw10_ComposeKnown.l13_eq] at h
    exact loop_ok (evCode_ok (parquetlaw10_ComposeKnown.env N) Try_mixed (parquetlaw10_ComposeKnown.res_eq N) 385 parquetlaw10_ComposeKnown.b13 (AllCut.of (l := [(.loop (inner ((subLoops parquetlaw10_ComposeKnown.body).getD 1 .skip)))]) (by kernel_rfl) (AllCut.cons (parquetlaw10_ComposeKnown.k16 N) AllCut.nil))) h
  · cases h
theorem parquetlaw10_ComposeKnown.spec (N : Nat) (r : Bool) (h : parquetlaw10_ComposeKnown.f N = some r) : FnSpec Try.prog 6 [] [] (.c (.bool r)) ([]) := by
  rw [← parquetlaw10_ComposeKnown.f_eq] at h
  obtain ⟨v, bs', h1, h2⟩ := evFun_ok (parquetlaw10_ComposeKnown.env N) Try_mixed Try.func6 (by kernel_rfl : Try.f6.body = some parquetlaw10_ComposeKnown.body) (by kernel_rfl) (parquetlaw10_ComposeKnown.res_eq N) (by kernel_rfl) (by kernel_rfl) (Nat.le_of_ble_eq_true (by kernel_rfl)) (AllCut.of (l := [(.loop (inner ((subLoops parquetlaw10_ComposeKnown.body).getD 0 .skip))), (.loop (inner ((subLoops parquetlaw10_ComposeKnown.body).getD 1 .skip)))]) (by kernel_rfl) (AllCut.cons (parquetlaw10_ComposeKnown.k13 N) (AllCut.cons (parquetlaw10_ComposeKnown.k16 N) AllCut.nil))) h
  unfold parquetlaw10_ComposeKnown.dec at h1; split at h1
  · cases h1; exact h2
  · cases h1
theorem parquetlaw10_ComposeKnown.ent_ok (N : Nat) : TabOK1 Try.prog 6 (parquetlaw10_ComposeKnown.ent N) := by
  intro args bs a enc h
  simp only [parquetlaw10_ComposeKnown.ent] at h
  split at h
  · rename_i hz; have h0 := Option.some.inj h; have h1 := congrArg Prod.fst h0; have h2 := congrArg Prod.snd h0; dsimp only at h1 h2; subst h2; exact FnSpec.of_freeze hz (parquetlaw10_ComposeKnown.spec N a h1)
  · cases h
end Go.Proofs.Ytbnoablfajmaeaa
