-- The seat's functions as the evaluator goes through them: typed models and their laws.
import Derived.Test.YtlofhdoefjmabaaProg
import Derived.Test.YtlofhdoefjmabaaEvF
import Derived.Test.YtlofhdoefjmabaaT4
import Derived.KernelRfl
namespace Go.Proofs.Ytlofhdoefjmabaa
open Go.Proofs.Ytlofhdoefjmabaa.Ev
set_option linter.unusedVariables false
open Go

noncomputable def ty49 : TI := ⟨.slice 24, 1, 24, [.slice none 0 0]⟩
noncomputable def ty53 : TI := ⟨.map 23 3, 1, 8, [.map none]⟩
noncomputable def ty63 : TI := ⟨.arr 2 23, 6, 48, [.int .i64 0, .int .i64 0, .int .i64 0, .int .i64 0, .int .i64 0, .int .i64 0]⟩
theorem ty49_ok : TyOK1 Try.prog 49 ty49 := tyok_of (by kernel_rfl) (by kernel_rfl) (by kernel_rfl) (by kernel_rfl) (by kernel_rfl) (by kernel_rfl) (by kernel_rfl) (Try.underlying49) (by kernel_rfl)
theorem ty53_ok : TyOK1 Try.prog 53 ty53 := tyok_of (by kernel_rfl) (by kernel_rfl) (by kernel_rfl) (by kernel_rfl) (by kernel_rfl) (by kernel_rfl) (by kernel_rfl) (tk_map Try.underlying53 (by kernel_rfl)) (by kernel_rfl)
theorem ty63_ok : TyOK1 Try.prog 63 ty63 := tyok_of (by kernel_rfl) (by kernel_rfl) (by kernel_rfl) (by kernel_rfl) (by kernel_rfl) (by kernel_rfl) (by kernel_rfl) (Try.underlying63) (by kernel_rfl)
/-! parquet/cycle.prime: function 45 -/
noncomputable def cycle_prime.l6 {R : Type} (N : Nat) : Nat → Int → Int → Int → Int → Int → Int → (Int → Int → Int → Int → Int → Option R) → Option R
  | 0, _, _, _, _, _, _, _ => none
  | n + 1, x10, x11, x12, x13, x14, x15, k2 =>
    bif decide (x11 > 0) then
      bif !(x11 == 0) then
        cycle_prime.l6 N n x11 (Int.tmod x10 x11) x12 x13 x14 x15 k2
      else none
    else
    k2 x10 x12 x13 x14 x15
noncomputable def cycle_prime.l3 {R : Type} (N : Nat) : Nat → Int → Int → Int → Int → Int → (Int → Option R) → Option R
  | 0, _, _, _, _, _, _ => none
  | n + 1, x4, x5, x6, x7, x8, k0 =>
    bif decide (x8 < 3) then
      bif (decide (0 ≤ x8)) && (decide (x8 < 3)) then
        (cycle_size.f N ([x5, x6, x7].getD x8.toNat 0)).bind fun r9 =>
        cycle_prime.l6 N N x4 r9 x5 x6 x7 x8
          (fun y21 y22 y23 y24 y25 =>
            cycle_prime.l3 N n y21 y22 y23 y24 (wi64 (y25 + 1)) k0)
      else none
    else
    k0 x4
noncomputable def cycle_prime.f (N : Nat) (a1 : Int) (a2 : Int) (a3 : Int) : Option (Bool) :=
  cycle_prime.l3 N N 0 a1 a2 a3 0
    (fun y27 =>
      some (y27 == 1))
noncomputable def cycle_prime.body : Code := (Try.f45.body).getD .skip
noncomputable def cycle_prime.ty : List (Nat × TI) := [(2, ty2), (23, ty23), (57, ty57)]
noncomputable def cycle_prime.h3 : Hint := ⟨[(3, .any), (12, .recd [.any, .any, .any]), (13, .any)], [(3, .any)]⟩
noncomputable def cycle_prime.h6 : Hint := ⟨[(3, .any), (5, .any), (12, .recd [.any, .any, .any]), (13, .any)], [(3, .any), (12, .recd [.any, .any, .any]), (13, .any)]⟩
noncomputable def cycle_prime.c6 (N : Nat) : Cut := ⟨fun vs H k => match vs, H with
  | [.c (.int .i64 x10), .c (.int .i64 x11), .agg [.c (.int .i64 x12), .c (.int .i64 x13), .c (.int .i64 x14)], .c (.int .i64 x15)], [] => cycle_prime.l6 N N x10 x11 x12 x13 x14 x15 (fun x16 x17 x18 x19 x20 => k (.exit 2) ⟨mkT cycle_prime.h6.out [.c (.int .i64 x16), .agg [.c (.int .i64 x17), .c (.int .i64 x18), .c (.int .i64 x19)], .c (.int .i64 x20)], []⟩)
  | _, _ => none⟩
noncomputable def cycle_prime.c3 (N : Nat) : Cut := ⟨fun vs H k => match vs, H with
  | [.c (.int .i64 x4), .agg [.c (.int .i64 x5), .c (.int .i64 x6), .c (.int .i64 x7)], .c (.int .i64 x8)], [] => cycle_prime.l3 N N x4 x5 x6 x7 x8 (fun x26 => k (.exit 0) ⟨mkT cycle_prime.h3.out [.c (.int .i64 x26)], []⟩)
  | _, _ => none⟩
noncomputable def cycle_prime.E (N : Nat) : Env := { ty := lookN cycle_prime.ty, tab := lookN [(50, cycle_size.ent N)], hint := lookN [(3, cycle_prime.h3), (6, cycle_prime.h6)], cut := lookN [(6, cycle_prime.c6 N), (3, cycle_prime.c3 N)], N := N, res := [.tmp 2], rsh := [.any], nb := 0, ntmps := 27, own := false }
noncomputable def cycle_prime.b6 : Code := inner ((subLoops cycle_prime.body).getD 1 .skip)
set_option maxRecDepth 100000 in
theorem cycle_prime.l6_eq {R : Type} (N n : Nat) (x10 : Int) (x11 : Int) (x12 : Int) (x13 : Int) (x14 : Int) (x15 : Int) (k : Ex → St → Option R) :
    evLoop 0 cycle_prime.h6 (fun s k => evCode (cycle_prime.E N) 386 cycle_prime.b6 s k) n [.c (.int .i64 x10), .c (.int .i64 x11), .agg [.c (.int .i64 x12), .c (.int .i64 x13), .c (.int .i64 x14)], .c (.int .i64 x15)] [] k = cycle_prime.l6 N n x10 x11 x12 x13 x14 x15 (fun x16 x17 x18 x19 x20 => k (.exit 2) ⟨mkT cycle_prime.h6.out [.c (.int .i64 x16), .agg [.c (.int .i64 x17), .c (.int .i64 x18), .c (.int .i64 x19)], .c (.int .i64 x20)], []⟩) := by
  induction n generalizing x10 x11 x12 x13 x14 x15 with
  | zero => kernel_rfl
  | succ n ih =>
    simp only [cycle_prime.l6, ← ih]
    kernel_rfl
noncomputable def cycle_prime.b3 : Code := inner ((subLoops cycle_prime.body).getD 0 .skip)
set_option maxRecDepth 100000 in
theorem cycle_prime.l3_eq {R : Type} (N n : Nat) (x4 : Int) (x5 : Int) (x6 : Int) (x7 : Int) (x8 : Int) (k : Ex → St → Option R) :
    evLoop 0 cycle_prime.h3 (fun s k => evCode (cycle_prime.E N) 394 cycle_prime.b3 s k) n [.c (.int .i64 x4), .agg [.c (.int .i64 x5), .c (.int .i64 x6), .c (.int .i64 x7)], .c (.int .i64 x8)] [] k = cycle_prime.l3 N n x4 x5 x6 x7 x8 (fun x26 => k (.exit 0) ⟨mkT cycle_prime.h3.out [.c (.int .i64 x26)], []⟩) := by
  induction n generalizing x4 x5 x6 x7 x8 with
  | zero => kernel_rfl
  | succ n ih =>
    simp only [cycle_prime.l3, ← ih]
    kernel_rfl
noncomputable def cycle_prime.dec (v : V) (bs : List Blk) : Option (Bool) := match v, bs with
  | .c (.bool z0), [] => some z0
  | _, _ => none
set_option maxRecDepth 100000 in
theorem cycle_prime.f_eq (N : Nat) (a1 : Int) (a2 : Int) (a3 : Int) :
    evFun (cycle_prime.E N) cycle_prime.body [.agg [.c (.int .i64 a1), .c (.int .i64 a2), .c (.int .i64 a3)]] [] cycle_prime.dec = cycle_prime.f N a1 a2 a3 := by kernel_rfl
noncomputable def cycle_prime.ent (N : Nat) : Entry := { A := Bool, fresh := 0, imm := [true], dec := fun args bs => match freezeL 0 (fun _ => .dead) [.recd [.any, .any, .any]] args, bs with
  | some [.agg [.c (.int .i64 a1), .c (.int .i64 a2), .c (.int .i64 a3)]], [] => some (cycle_prime.f N a1 a2 a3, fun r => .one (.c (.bool r)) [])
  | _, _ => none }
theorem cycle_prime.env (N : Nat) : EnvOK Try.prog (cycle_prime.E N) := ⟨(TyOK.cons ty2_ok (TyOK.cons ty23_ok (TyOK.cons ty57_ok TyOK.nil))), (TabOK.cons (cycle_size.ent_ok N) TabOK.nil)⟩
theorem cycle_prime.res_eq (N : Nat) : (cycle_prime.E N).res = Try.f45.results.toList := by kernel_rfl
theorem cycle_prime.k6 (N : Nat) : CutOK Try.prog Try.f45 (cycle_prime.E N) (.loop cycle_prime.b6) := by
  intro e hd he hh R vs H k r h
  have e1 : (cycle_prime.E N).cut (loopKey cycle_prime.b6) = some (cycle_prime.c6 N) := by kernel_rfl
  have e2 : (cycle_prime.E N).hint (loopKey cycle_prime.b6) = some cycle_prime.h6 := by kernel_rfl
  rw [e1] at he; rw [e2] at hh; cases he; cases hh
  unfold cycle_prime.c6 at h; dsimp only at h
  split at h
  · rw [← cycle_prime.l6_eq] at h
    exact loop_ok (evCode_ok (cycle_prime.env N) Try_mixed (cycle_prime.res_eq N) 386 cycle_prime.b6 (AllCut.of (l := []) (by kernel_rfl) AllCut.nil)) h
  · cases h
theorem cycle_prime.k3 (N : Nat) : CutOK Try.prog Try.f45 (cycle_prime.E N) (.loop cycle_prime.b3) := by
  intro e hd he hh R vs H k r h
  have e1 : (cycle_prime.E N).cut (loopKey cycle_prime.b3) = some (cycle_prime.c3 N) := by kernel_rfl
  have e2 : (cycle_prime.E N).hint (loopKey cycle_prime.b3) = some cycle_prime.h3 := by kernel_rfl
  rw [e1] at he; rw [e2] at hh; cases he; cases hh
  unfold cycle_prime.c3 at h; dsimp only at h
  split at h
  · rw [← cycle_prime.l3_eq] at h
    exact loop_ok (evCode_ok (cycle_prime.env N) Try_mixed (cycle_prime.res_eq N) 394 cycle_prime.b3 (AllCut.of (l := [(.loop (inner ((subLoops cycle_prime.body).getD 1 .skip)))]) (by kernel_rfl) (AllCut.cons (cycle_prime.k6 N) AllCut.nil))) h
  · cases h
theorem cycle_prime.spec (N : Nat) (a1 : Int) (a2 : Int) (a3 : Int) (r : Bool) (h : cycle_prime.f N a1 a2 a3 = some r) : FnSpec Try.prog 45 [.agg [.c (.int .i64 a1), .c (.int .i64 a2), .c (.int .i64 a3)]] [] (.c (.bool r)) ([]) := by
  rw [← cycle_prime.f_eq] at h
  refine (evFun_ok (cycle_prime.env N) Try_mixed Try.func45 (by kernel_rfl : Try.f45.body = some cycle_prime.body) (by kernel_rfl) (cycle_prime.res_eq N) (by kernel_rfl) (by kernel_rfl) (Nat.le_of_ble_eq_true (by kernel_rfl)) (AllCut.of (l := [(.loop (inner ((subLoops cycle_prime.body).getD 0 .skip))), (.loop (inner ((subLoops cycle_prime.body).getD 1 .skip)))]) (by kernel_rfl) (AllCut.cons (cycle_prime.k3 N) (AllCut.cons (cycle_prime.k6 N) AllCut.nil))) h).of fun v bs' h1 => ?_
  unfold cycle_prime.dec at h1; split at h1
  · cases h1; exact ⟨rfl, rfl⟩
  · cases h1
theorem cycle_prime.ent_ok (N : Nat) : TabOK1 Try.prog 45 (cycle_prime.ent N) := by
  intro args bs a enc h
  simp only [cycle_prime.ent] at h
  split at h
  · rename_i hz; have h0 := Option.some.inj h; have h1 := congrArg Prod.fst h0; have h2 := congrArg Prod.snd h0; dsimp only at h1 h2; subst h2; exact FnSpec.of_freeze hz (cycle_prime.spec N _ _ _ a h1)
  · cases h
/-! parquet/cycle.All: function 29 -/
noncomputable def cycle_All.l10 {R : Type} (N : Nat) : Nat → Int → Int → Int → Int → Int → List Int → (Int → Int → Int → List Int → Option R) → Option R
  | 0, _, _, _, _, _, _, _ => none
  | n + 1, x8, x9, x10, x11, x12, x13, k2 =>
    bif decide (x12 ≤ x9) then
      bif !(x12 == 0) then
        bif (Int.tmod x11 x12) != 0 then
          cycle_All.l10 N n x8 x9 x10 x11 (wi64 (x12 + 1)) x13 k2
        else
        bif !(x12 == 0) then
          bif !(x12 == 0) then
            (cycle_reduced.f N x12 x10 (wi64 (Int.tdiv (wi64 (0 - x11)) x12)) x9).bind fun r14 =>
            bif r14 then
              (cycle_prime.f N x12 x10 (wi64 (Int.tdiv (wi64 (0 - x11)) x12))).bind fun r15 =>
              bif r15 then
                bif roomy ((x13.length + 3) / 3) 24 then
                  (cycle_reduced.f N (wi64 (0 - x12)) x10 (wi64 (Int.tdiv x11 x12)) x9).bind fun r16 =>
                  bif r16 then
                    (cycle_prime.f N (wi64 (0 - x12)) x10 (wi64 (Int.tdiv x11 x12))).bind fun r17 =>
                    bif r17 then
                      bif roomy ((((x13 ++ [x12, x10, wi64 (Int.tdiv (wi64 (0 - x11)) x12)]).length) + 3) / 3) 24 then
                        cycle_All.l10 N n x8 x9 x10 x11 (wi64 (x12 + 1)) ((x13 ++ [x12, x10, wi64 (Int.tdiv (wi64 (0 - x11)) x12)]) ++ [wi64 (0 - x12), x10, wi64 (Int.tdiv x11 x12)]) k2
                      else none
                    else
                    cycle_All.l10 N n x8 x9 x10 x11 (wi64 (x12 + 1)) (x13 ++ [x12, x10, wi64 (Int.tdiv (wi64 (0 - x11)) x12)]) k2
                  else
                  cycle_All.l10 N n x8 x9 x10 x11 (wi64 (x12 + 1)) (x13 ++ [x12, x10, wi64 (Int.tdiv (wi64 (0 - x11)) x12)]) k2
                else none
              else
              (cycle_reduced.f N (wi64 (0 - x12)) x10 (wi64 (Int.tdiv x11 x12)) x9).bind fun r18 =>
              bif r18 then
                (cycle_prime.f N (wi64 (0 - x12)) x10 (wi64 (Int.tdiv x11 x12))).bind fun r19 =>
                bif r19 then
                  bif roomy ((x13.length + 3) / 3) 24 then
                    cycle_All.l10 N n x8 x9 x10 x11 (wi64 (x12 + 1)) (x13 ++ [wi64 (0 - x12), x10, wi64 (Int.tdiv x11 x12)]) k2
                  else none
                else
                cycle_All.l10 N n x8 x9 x10 x11 (wi64 (x12 + 1)) x13 k2
              else
              cycle_All.l10 N n x8 x9 x10 x11 (wi64 (x12 + 1)) x13 k2
            else
            (cycle_reduced.f N (wi64 (0 - x12)) x10 (wi64 (Int.tdiv x11 x12)) x9).bind fun r20 =>
            bif r20 then
              (cycle_prime.f N (wi64 (0 - x12)) x10 (wi64 (Int.tdiv x11 x12))).bind fun r21 =>
              bif r21 then
                bif roomy ((x13.length + 3) / 3) 24 then
                  cycle_All.l10 N n x8 x9 x10 x11 (wi64 (x12 + 1)) (x13 ++ [wi64 (0 - x12), x10, wi64 (Int.tdiv x11 x12)]) k2
                else none
              else
              cycle_All.l10 N n x8 x9 x10 x11 (wi64 (x12 + 1)) x13 k2
            else
            cycle_All.l10 N n x8 x9 x10 x11 (wi64 (x12 + 1)) x13 k2
          else none
        else none
      else none
    else
    k2 x8 x9 x10 x13
noncomputable def cycle_All.l6 {R : Type} (N : Nat) : Nat → Int → Int → Int → List Int → (List Int → Option R) → Option R
  | 0, _, _, _, _, _ => none
  | n + 1, x4, x5, x6, x7, k0 =>
    bif decide (x6 ≤ x5) then
      cycle_All.l10 N N x4 x5 x6 (wi64 (Int.tdiv (wi64 (x4 - (wi64 (x6 * x6)))) 4)) 1 x7
        (fun y26 y27 y28 y29 =>
          cycle_All.l6 N n y26 y27 (wi64 (y28 + 2)) y29 k0)
    else
    k0 x7
noncomputable def cycle_All.l28 {R : Type} (N : Nat) : Nat → Int → Int → Int → Int → List (List Int) → List Bool → List (List Int) → List Int → List Int → (Int → Int → List (List Int) → List Bool → List (List Int) → List Int → List Int → Option R) → Option R
  | 0, _, _, _, _, _, _, _, _, _, _ => none
  | n + 1, x40, x41, x42, x43, x44, x45, x46, x47, x48, k8 =>
    bif decide (x43 < x42) then
      bif (decide (0 ≤ x43)) && (decide (x43 < (x47.length / 3 : Int))) then
        cycle_All.l28 N n x40 x41 x42 (wi64 (x43 + 1)) (mputK [x47.getD (x43.toNat * 3) 0, x47.getD ((x43.toNat * 3) + 1) 0, x47.getD ((x43.toNat * 3) + 2) 0] x44) (mput [x47.getD (x43.toNat * 3) 0, x47.getD ((x43.toNat * 3) + 1) 0, x47.getD ((x43.toNat * 3) + 2) 0] true x44 x45) x46 x47 x48 k8
      else none
    else
    k8 x40 x41 x44 x45 x46 x47 x48
noncomputable def cycle_All.l23 {R : Type} (N : Nat) : Nat → Int → Int → List (List Int) → List Bool → List (List Int) → List Int → (List (List Int) → Option R) → Option R
  | 0, _, _, _, _, _, _, _ => none
  | n + 1, x33, x34, x35, x36, x37, x38, k6 =>
    bif decide (x34 < x33) then
      bif (decide (0 ≤ x34)) && (decide (x34 < (x38.length / 3 : Int))) then
        bif mgetB [x38.getD (x34.toNat * 3) 0, x38.getD ((x34.toNat * 3) + 1) 0, x38.getD ((x34.toNat * 3) + 2) 0] x35 x36 then
          cycle_All.l23 N n x33 (wi64 (x34 + 1)) x35 x36 x37 x38 k6
        else
        (cycle_round.f N (x38.getD (x34.toNat * 3) 0) (x38.getD ((x34.toNat * 3) + 1) 0) (x38.getD ((x34.toNat * 3) + 2) 0)).bind fun r39 =>
        cycle_All.l28 N N x33 x34 (r39.1.length / 3 : Int) 0 x35 x36 x37 r39.1 x38
          (fun y56 y57 y58 y59 y60 y61 y62 =>
            bif roomy (y60.length + 1) 24 then
              cycle_All.l23 N n y56 (wi64 (y57 + 1)) y58 y59 (y60 ++ [y61]) y62 k6
            else none)
      else none
    else
    k6 x37
noncomputable def cycle_All.f (N : Nat) (a1 : Int) : Option (List (List Int) × Int) :=
  bif decide (a1 > 65536) then
    some ([], 80)
  else
  (cycle_cross.f N a1).bind fun r2 =>
  bif !r2 then
    some ([], 80)
  else
  (cycle_root.f N a1).bind fun r3 =>
  cycle_All.l6 N N a1 r3 (wi64 (2 - (Int.tmod a1 2))) []
    (fun y31 =>
      (slices_SortFunc___parquet_api_Binary_parquet_api_Binary_.f N y31).bind fun r32 =>
      cycle_All.l23 N N (r32.length / 3 : Int) 0 [] [] [] r32
        (fun y64 =>
          some (y64, 0)))
noncomputable def cycle_All.body : Code := (Try.f29.body).getD .skip
noncomputable def cycle_All.ty : List (Nat × TI) := [(2, ty2), (4, ty4), (23, ty23), (24, ty24), (44, ty44), (49, ty49), (63, ty63)]
noncomputable def cycle_All.h6 : Hint := ⟨[(0, .any), (4, .any), (5, .row .i64 3), (6, .any)], [(5, .row .i64 3)]⟩
noncomputable def cycle_All.h10 : Hint := ⟨[(0, .any), (4, .any), (5, .row .i64 3), (6, .any), (7, .any), (8, .any)], [(0, .any), (4, .any), (5, .row .i64 3), (6, .any)]⟩
noncomputable def cycle_All.h14 : Hint := ⟨[(0, .any), (4, .any), (5, .row .i64 3), (6, .any), (7, .any), (8, .any), (65, .recd [.any, .any, .any, .any, .any, .any]), (66, .any)], [(0, .any), (4, .any), (5, .any), (6, .any), (7, .any), (8, .any)]⟩
noncomputable def cycle_All.h23 : Hint := ⟨[(11, .any), (12, .nrow .i64 3), (84, .row .i64 3), (85, .any), (86, .any)], [(12, .nrow .i64 3)]⟩
noncomputable def cycle_All.h28 : Hint := ⟨[(11, .any), (12, .nrow .i64 3), (15, .row .i64 3), (84, .row .i64 3), (85, .any), (86, .any), (98, .row .i64 3), (99, .any), (100, .any)], [(11, .any), (12, .nrow .i64 3), (15, .row .i64 3), (84, .row .i64 3), (85, .any), (86, .any)]⟩
noncomputable def cycle_All.c10 (N : Nat) : Cut := ⟨fun vs H k => match vs, H with
  | [.c (.int .i64 x8), .c (.int .i64 x9), .sw 0 3, .c (.int .i64 x10), .c (.int .i64 x11), .c (.int .i64 x12)], [.ints .i64 x13] => cycle_All.l10 N N x8 x9 x10 x11 x12 x13 (fun x22 x23 x24 x25 => k (.exit 2) ⟨mkT cycle_All.h10.out [.c (.int .i64 x22), .c (.int .i64 x23), .sw 0 3, .c (.int .i64 x24)], [.ints .i64 x25]⟩)
  | _, _ => none⟩
noncomputable def cycle_All.c6 (N : Nat) : Cut := ⟨fun vs H k => match vs, H with
  | [.c (.int .i64 x4), .c (.int .i64 x5), .sw 0 3, .c (.int .i64 x6)], [.ints .i64 x7] => cycle_All.l6 N N x4 x5 x6 x7 (fun x30 => k (.exit 0) ⟨mkT cycle_All.h6.out [.sw 0 3], [.ints .i64 x30]⟩)
  | _, _ => none⟩
noncomputable def cycle_All.c28 (N : Nat) : Cut := ⟨fun vs H k => match vs, H with
  | [.mref 0, .sw 1 1, .sw 2 3, .sw 3 3, .c (.int .i64 x40), .c (.int .i64 x41), .sw 2 3, .c (.int .i64 x42), .c (.int .i64 x43)], [.mp .i64 3 x44 (.bools x45), .nl .i64 3 x46, .ints .i64 x47, .ints .i64 x48] => cycle_All.l28 N N x40 x41 x42 x43 x44 x45 x46 x47 x48 (fun x49 x50 x51 x52 x53 x54 x55 => k (.exit 8) ⟨mkT cycle_All.h28.out [.mref 0, .sw 1 1, .sw 2 3, .sw 3 3, .c (.int .i64 x49), .c (.int .i64 x50)], [.mp .i64 3 x51 (.bools x52), .nl .i64 3 x53, .ints .i64 x54, .ints .i64 x55]⟩)
  | _, _ => none⟩
noncomputable def cycle_All.c23 (N : Nat) : Cut := ⟨fun vs H k => match vs, H with
  | [.mref 0, .sw 1 1, .sw 2 3, .c (.int .i64 x33), .c (.int .i64 x34)], [.mp .i64 3 x35 (.bools x36), .nl .i64 3 x37, .ints .i64 x38] => cycle_All.l23 N N x33 x34 x35 x36 x37 x38 (fun x63 => k (.exit 6) ⟨mkT cycle_All.h23.out [.sw 0 1], [.nl .i64 3 x63]⟩)
  | _, _ => none⟩
noncomputable def cycle_All.E (N : Nat) : Env := { ty := lookN cycle_All.ty, tab := lookN [(38, cycle_cross.ent N), (40, cycle_root.ent N), (41, cycle_reduced.ent N), (45, cycle_prime.ent N), (46, slices_SortFunc___parquet_api_Binary_parquet_api_Binary_.ent N), (33, cycle_round.ent N)], hint := lookN [(6, cycle_All.h6), (10, cycle_All.h10), (14, cycle_All.h14), (23, cycle_All.h23), (28, cycle_All.h28)], cut := lookN [(10, cycle_All.c10 N), (6, cycle_All.c6 N), (28, cycle_All.c28 N), (23, cycle_All.c23 N)], N := 40, res := [.tmp 2, .tmp 3], rsh := [.nrow .i64 3, .any], nb := 0, ntmps := 113, own := true }
noncomputable def cycle_All.b10 : Code := inner ((subLoops cycle_All.body).getD 1 .skip)
set_option maxRecDepth 100000 in
theorem cycle_All.l10_eq {R : Type} (N n : Nat) (x8 : Int) (x9 : Int) (x10 : Int) (x11 : Int) (x12 : Int) (x13 : List Int) (k : Ex → St → Option R) :
    evLoop 0 cycle_All.h10 (fun s k => evCode (cycle_All.E N) 385 cycle_All.b10 s k) n [.c (.int .i64 x8), .c (.int .i64 x9), .sw 0 3, .c (.int .i64 x10), .c (.int .i64 x11), .c (.int .i64 x12)] [.ints .i64 x13] k = cycle_All.l10 N n x8 x9 x10 x11 x12 x13 (fun x22 x23 x24 x25 => k (.exit 2) ⟨mkT cycle_All.h10.out [.c (.int .i64 x22), .c (.int .i64 x23), .sw 0 3, .c (.int .i64 x24)], [.ints .i64 x25]⟩) := by
  induction n generalizing x8 x9 x10 x11 x12 x13 with
  | zero => kernel_rfl
  | succ n ih =>
    simp only [cycle_All.l10, ← ih]
    kernel_rfl
noncomputable def cycle_All.b6 : Code := inner ((subLoops cycle_All.body).getD 0 .skip)
set_option maxRecDepth 100000 in
theorem cycle_All.l6_eq {R : Type} (N n : Nat) (x4 : Int) (x5 : Int) (x6 : Int) (x7 : List Int) (k : Ex → St → Option R) :
    evLoop 0 cycle_All.h6 (fun s k => evCode (cycle_All.E N) 392 cycle_All.b6 s k) n [.c (.int .i64 x4), .c (.int .i64 x5), .sw 0 3, .c (.int .i64 x6)] [.ints .i64 x7] k = cycle_All.l6 N n x4 x5 x6 x7 (fun x30 => k (.exit 0) ⟨mkT cycle_All.h6.out [.sw 0 3], [.ints .i64 x30]⟩) := by
  induction n generalizing x4 x5 x6 x7 with
  | zero => kernel_rfl
  | succ n ih =>
    simp only [cycle_All.l6, ← ih]
    kernel_rfl
noncomputable def cycle_All.b28 : Code := inner ((subLoops cycle_All.body).getD 4 .skip)
set_option maxRecDepth 100000 in
theorem cycle_All.l28_eq {R : Type} (N n : Nat) (x40 : Int) (x41 : Int) (x42 : Int) (x43 : Int) (x44 : List (List Int)) (x45 : List Bool) (x46 : List (List Int)) (x47 : List Int) (x48 : List Int) (k : Ex → St → Option R) :
    evLoop 0 cycle_All.h28 (fun s k => evCode (cycle_All.E N) 377 cycle_All.b28 s k) n [.mref 0, .sw 1 1, .sw 2 3, .sw 3 3, .c (.int .i64 x40), .c (.int .i64 x41), .sw 2 3, .c (.int .i64 x42), .c (.int .i64 x43)] [.mp .i64 3 x44 (.bools x45), .nl .i64 3 x46, .ints .i64 x47, .ints .i64 x48] k = cycle_All.l28 N n x40 x41 x42 x43 x44 x45 x46 x47 x48 (fun x49 x50 x51 x52 x53 x54 x55 => k (.exit 8) ⟨mkT cycle_All.h28.out [.mref 0, .sw 1 1, .sw 2 3, .sw 3 3, .c (.int .i64 x49), .c (.int .i64 x50)], [.mp .i64 3 x51 (.bools x52), .nl .i64 3 x53, .ints .i64 x54, .ints .i64 x55]⟩) := by
  induction n generalizing x40 x41 x42 x43 x44 x45 x46 x47 x48 with
  | zero => kernel_rfl
  | succ n ih =>
    simp only [cycle_All.l28, ← ih]
    kernel_rfl
noncomputable def cycle_All.b23 : Code := inner ((subLoops cycle_All.body).getD 3 .skip)
set_option maxRecDepth 100000 in
theorem cycle_All.l23_eq {R : Type} (N n : Nat) (x33 : Int) (x34 : Int) (x35 : List (List Int)) (x36 : List Bool) (x37 : List (List Int)) (x38 : List Int) (k : Ex → St → Option R) :
    evLoop 0 cycle_All.h23 (fun s k => evCode (cycle_All.E N) 388 cycle_All.b23 s k) n [.mref 0, .sw 1 1, .sw 2 3, .c (.int .i64 x33), .c (.int .i64 x34)] [.mp .i64 3 x35 (.bools x36), .nl .i64 3 x37, .ints .i64 x38] k = cycle_All.l23 N n x33 x34 x35 x36 x37 x38 (fun x63 => k (.exit 6) ⟨mkT cycle_All.h23.out [.sw 0 1], [.nl .i64 3 x63]⟩) := by
  induction n generalizing x33 x34 x35 x36 x37 x38 with
  | zero => kernel_rfl
  | succ n ih =>
    simp only [cycle_All.l23, ← ih]
    kernel_rfl
noncomputable def cycle_All.dec (v : V) (bs : List Blk) : Option (List (List Int) × Int) := match v, bs with
  | .tup [.sw 0 1, .c (.int .i64 z1)], [.nl .i64 3 z0] => some (z0, z1)
  | _, _ => none
set_option maxRecDepth 100000 in
theorem cycle_All.f_eq (N : Nat) (a1 : Int) :
    evFun (cycle_All.E N) cycle_All.body [.c (.int .i64 a1)] [] cycle_All.dec = cycle_All.f N a1 := by kernel_rfl
noncomputable def cycle_All.ent (N : Nat) : Entry := { A := List (List Int) × Int, fresh := 1, imm := [true], dec := fun args bs => match freezeL 0 (fun _ => .dead) [.any] args, bs with
  | some [.c (.int .i64 a1)], [] => some (cycle_All.f N a1, fun r => .one (.tup [.sw 0 1, .c (.int .i64 r.2)]) [.nl .i64 3 r.1])
  | _, _ => none }
theorem cycle_All.env (N : Nat) : EnvOK Try.prog (cycle_All.E N) := ⟨(TyOK.cons ty2_ok (TyOK.cons ty4_ok (TyOK.cons ty23_ok (TyOK.cons ty24_ok (TyOK.cons ty44_ok (TyOK.cons ty49_ok (TyOK.cons ty63_ok TyOK.nil))))))), (TabOK.cons (cycle_cross.ent_ok N) (TabOK.cons (cycle_root.ent_ok N) (TabOK.cons (cycle_reduced.ent_ok N) (TabOK.cons (cycle_prime.ent_ok N) (TabOK.cons (slices_SortFunc___parquet_api_Binary_parquet_api_Binary_.ent_ok N) (TabOK.cons (cycle_round.ent_ok N) TabOK.nil))))))⟩
theorem cycle_All.res_eq (N : Nat) : (cycle_All.E N).res = Try.f29.results.toList := by kernel_rfl
theorem cycle_All.k28 (N : Nat) : CutOK Try.prog Try.f29 (cycle_All.E N) (.loop cycle_All.b28) := by
  intro e hd he hh R vs H k r h
  have e1 : (cycle_All.E N).cut (loopKey cycle_All.b28) = some (cycle_All.c28 N) := by kernel_rfl
  have e2 : (cycle_All.E N).hint (loopKey cycle_All.b28) = some cycle_All.h28 := by kernel_rfl
  rw [e1] at he; rw [e2] at hh; cases he; cases hh
  unfold cycle_All.c28 at h; dsimp only at h
  split at h
  · rw [← cycle_All.l28_eq] at h
    exact loop_ok (evCode_ok (cycle_All.env N) Try_mixed (cycle_All.res_eq N) 377 cycle_All.b28 (AllCut.of (l := []) (by kernel_rfl) AllCut.nil)) h
  · cases h
theorem cycle_All.k23 (N : Nat) : CutOK Try.prog Try.f29 (cycle_All.E N) (.loop cycle_All.b23) := by
  intro e hd he hh R vs H k r h
  have e1 : (cycle_All.E N).cut (loopKey cycle_All.b23) = some (cycle_All.c23 N) := by kernel_rfl
  have e2 : (cycle_All.E N).hint (loopKey cycle_All.b23) = some cycle_All.h23 := by kernel_rfl
  rw [e1] at he; rw [e2] at hh; cases he; cases hh
  unfold cycle_All.c23 at h; dsimp only at h
  split at h
  · rw [← cycle_All.l23_eq] at h
    exact loop_ok (evCode_ok (cycle_All.env N) Try_mixed (cycle_All.res_eq N) 388 cycle_All.b23 (AllCut.of (l := [(.loop (inner ((subLoops cycle_All.body).getD 4 .skip)))]) (by kernel_rfl) (AllCut.cons (cycle_All.k28 N) AllCut.nil))) h
  · cases h
theorem cycle_All.k10 (N : Nat) : CutOK Try.prog Try.f29 (cycle_All.E N) (.loop cycle_All.b10) := by
  intro e hd he hh R vs H k r h
  have e1 : (cycle_All.E N).cut (loopKey cycle_All.b10) = some (cycle_All.c10 N) := by kernel_rfl
  have e2 : (cycle_All.E N).hint (loopKey cycle_All.b10) = some cycle_All.h10 := by kernel_rfl
  rw [e1] at he; rw [e2] at hh; cases he; cases hh
  unfold cycle_All.c10 at h; dsimp only at h
  split at h
  · rw [← cycle_All.l10_eq] at h
    exact loop_ok (evCode_ok (cycle_All.env N) Try_mixed (cycle_All.res_eq N) 385 cycle_All.b10 (AllCut.of (l := [(.loop (inner ((subLoops cycle_All.body).getD 2 .skip)))]) (by kernel_rfl) (AllCut.cons (cut_loop (by kernel_rfl)) AllCut.nil))) h
  · cases h
theorem cycle_All.k6 (N : Nat) : CutOK Try.prog Try.f29 (cycle_All.E N) (.loop cycle_All.b6) := by
  intro e hd he hh R vs H k r h
  have e1 : (cycle_All.E N).cut (loopKey cycle_All.b6) = some (cycle_All.c6 N) := by kernel_rfl
  have e2 : (cycle_All.E N).hint (loopKey cycle_All.b6) = some cycle_All.h6 := by kernel_rfl
  rw [e1] at he; rw [e2] at hh; cases he; cases hh
  unfold cycle_All.c6 at h; dsimp only at h
  split at h
  · rw [← cycle_All.l6_eq] at h
    exact loop_ok (evCode_ok (cycle_All.env N) Try_mixed (cycle_All.res_eq N) 392 cycle_All.b6 (AllCut.of (l := [(.loop (inner ((subLoops cycle_All.body).getD 1 .skip))), (.loop (inner ((subLoops cycle_All.body).getD 2 .skip)))]) (by kernel_rfl) (AllCut.cons (cycle_All.k10 N) (AllCut.cons (cut_loop (by kernel_rfl)) AllCut.nil)))) h
  · cases h
theorem cycle_All.spec (N : Nat) (a1 : Int) (r : List (List Int) × Int) (h : cycle_All.f N a1 = some r) : FnSpec Try.prog 29 [.c (.int .i64 a1)] [] (.tup [.sw 0 1, .c (.int .i64 r.2)]) ([.nl .i64 3 r.1]) := by
  rw [← cycle_All.f_eq] at h
  refine (evFun_ok (cycle_All.env N) Try_mixed Try.func29 (by kernel_rfl : Try.f29.body = some cycle_All.body) (by kernel_rfl) (cycle_All.res_eq N) (by kernel_rfl) (by kernel_rfl) (Nat.le_of_ble_eq_true (by kernel_rfl)) (AllCut.of (l := [(.loop (inner ((subLoops cycle_All.body).getD 0 .skip))), (.loop (inner ((subLoops cycle_All.body).getD 1 .skip))), (.loop (inner ((subLoops cycle_All.body).getD 2 .skip))), (.loop (inner ((subLoops cycle_All.body).getD 3 .skip))), (.loop (inner ((subLoops cycle_All.body).getD 4 .skip)))]) (by kernel_rfl) (AllCut.cons (cycle_All.k6 N) (AllCut.cons (cycle_All.k10 N) (AllCut.cons (cut_loop (by kernel_rfl)) (AllCut.cons (cycle_All.k23 N) (AllCut.cons (cycle_All.k28 N) AllCut.nil)))))) h).of fun v bs' h1 => ?_
  unfold cycle_All.dec at h1; split at h1
  · cases h1; exact ⟨rfl, rfl⟩
  · cases h1
theorem cycle_All.ent_ok (N : Nat) : TabOK1 Try.prog 29 (cycle_All.ent N) := by
  intro args bs a enc h
  simp only [cycle_All.ent] at h
  split at h
  · rename_i hz; have h0 := Option.some.inj h; have h1 := congrArg Prod.fst h0; have h2 := congrArg Prod.snd h0; dsimp only at h1 h2; subst h2; exact FnSpec.of_freeze hz (cycle_All.spec N _ a h1)
  · cases h
/-! parquet/cycle.Principal: function 28 -/
noncomputable def cycle_Principal.f (N : Nat) (a1 : Int) : Option (Int × Int × Int × Int) :=
  bif decide (a1 > 65536) then
    some (0, 0, 0, 80)
  else
  (cycle_cross.f N a1).bind fun r2 =>
  bif !r2 then
    some (0, 0, 0, 80)
  else
  (cycle_root.f N a1).bind fun r3 =>
  some (1, wi64 (r3 - (bit_and .i64 (bit_xor .i64 r3 a1) 1)), wi64 (Int.tdiv (wi64 ((wi64 ((wi64 (r3 - (bit_and .i64 (bit_xor .i64 r3 a1) 1))) * (wi64 (r3 - (bit_and .i64 (bit_xor .i64 r3 a1) 1))))) - a1)) 4), 0)
noncomputable def cycle_Principal.body : Code := (Try.f28.body).getD .skip
noncomputable def cycle_Principal.ty : List (Nat × TI) := [(2, ty2), (23, ty23)]
noncomputable def cycle_Principal.E (N : Nat) : Env := { ty := lookN cycle_Principal.ty, tab := lookN [(38, cycle_cross.ent N), (40, cycle_root.ent N)], hint := lookN [], cut := lookN [], N := N, res := [.cell 2 23, .tmp 3], rsh := [.recd [.any, .any, .any], .any], nb := 0, ntmps := 29, own := false }
noncomputable def cycle_Principal.dec (v : V) (bs : List Blk) : Option (Int × Int × Int × Int) := match v, bs with
  | .tup [.agg [.c (.int .i64 z0), .c (.int .i64 z1), .c (.int .i64 z2)], .c (.int .i64 z3)], [] => some (z0, z1, z2, z3)
  | _, _ => none
set_option maxRecDepth 100000 in
theorem cycle_Principal.f_eq (N : Nat) (a1 : Int) :
    evFun (cycle_Principal.E N) cycle_Principal.body [.c (.int .i64 a1)] [] cycle_Principal.dec = cycle_Principal.f N a1 := by kernel_rfl
noncomputable def cycle_Principal.ent (N : Nat) : Entry := { A := Int × Int × Int × Int, fresh := 0, imm := [true], dec := fun args bs => match freezeL 0 (fun _ => .dead) [.any] args, bs with
  | some [.c (.int .i64 a1)], [] => some (cycle_Principal.f N a1, fun r => .one (.tup [.agg [.c (.int .i64 r.1), .c (.int .i64 r.2.1), .c (.int .i64 r.2.2.1)], .c (.int .i64 r.2.2.2)]) [])
  | _, _ => none }
theorem cycle_Principal.env (N : Nat) : EnvOK Try.prog (cycle_Principal.E N) := ⟨(TyOK.cons ty2_ok (TyOK.cons ty23_ok TyOK.nil)), (TabOK.cons (cycle_cross.ent_ok N) (TabOK.cons (cycle_root.ent_ok N) TabOK.nil))⟩
theorem cycle_Principal.res_eq (N : Nat) : (cycle_Principal.E N).res = Try.f28.results.toList := by kernel_rfl
theorem cycle_Principal.spec (N : Nat) (a1 : Int) (r : Int × Int × Int × Int) (h : cycle_Principal.f N a1 = some r) : FnSpec Try.prog 28 [.c (.int .i64 a1)] [] (.tup [.agg [.c (.int .i64 r.1), .c (.int .i64 r.2.1), .c (.int .i64 r.2.2.1)], .c (.int .i64 r.2.2.2)]) ([]) := by
  rw [← cycle_Principal.f_eq] at h
  refine (evFun_ok (cycle_Principal.env N) Try_mixed Try.func28 (by kernel_rfl : Try.f28.body = some cycle_Principal.body) (by kernel_rfl) (cycle_Principal.res_eq N) (by kernel_rfl) (by kernel_rfl) (Nat.le_of_ble_eq_true (by kernel_rfl)) (AllCut.of (l := []) (by kernel_rfl) AllCut.nil) h).of fun v bs' h1 => ?_
  unfold cycle_Principal.dec at h1; split at h1
  · cases h1; exact ⟨rfl, rfl⟩
  · cases h1
theorem cycle_Principal.ent_ok (N : Nat) : TabOK1 Try.prog 28 (cycle_Principal.ent N) := by
  intro args bs a enc h
  simp only [cycle_Principal.ent] at h
  split at h
  · rename_i hz; have h0 := Option.some.inj h; have h1 := congrArg Prod.fst h0; have h2 := congrArg Prod.snd h0; dsimp only at h1 h2; subst h2; exact FnSpec.of_freeze hz (cycle_Principal.spec N _ a h1)
  · cases h
/-! parquet/parquetlaw09.gcd: function 32 -/
noncomputable def parquetlaw09_gcd.l6 {R : Type} (N : Nat) : Nat → Int → Int → Int → Int → Int → Int → (Int → Int → Int → Int → Int → Option R) → Option R
  | 0, _, _, _, _, _, _, _ => none
  | n + 1, x9, x10, x11, x12, x13, x14, k2 =>
    bif decide (x10 > 0) then
      bif !(x10 == 0) then
        parquetlaw09_gcd.l6 N n x10 (Int.tmod x9 x10) x11 x12 x13 x14 k2
      else none
    else
    k2 x9 x11 x12 x13 x14
noncomputable def parquetlaw09_gcd.l3 {R : Type} (N : Nat) : Nat → Int → Int → Int → Int → Int → (Int → Option R) → Option R
  | 0, _, _, _, _, _, _ => none
  | n + 1, x4, x5, x6, x7, x8, k0 =>
    bif decide (x8 < 3) then
      bif (decide (0 ≤ x8)) && (decide (x8 < 3)) then
        parquetlaw09_gcd.l6 N N x4 (mx2 ([x5, x6, x7].getD x8.toNat 0) (wi64 (0 - ([x5, x6, x7].getD x8.toNat 0)))) x5 x6 x7 x8
          (fun y20 y21 y22 y23 y24 =>
            parquetlaw09_gcd.l3 N n y20 y21 y22 y23 (wi64 (y24 + 1)) k0)
      else none
    else
    k0 x4
noncomputable def parquetlaw09_gcd.f (N : Nat) (a1 : Int) (a2 : Int) (a3 : Int) : Option (Int) :=
  parquetlaw09_gcd.l3 N N 0 a1 a2 a3 0
    (fun y26 =>
      some y26)
noncomputable def parquetlaw09_gcd.body : Code := (Try.f32.body).getD .skip
noncomputable def parquetlaw09_gcd.ty : List (Nat × TI) := [(2, ty2), (23, ty23), (57, ty57)]
noncomputable def parquetlaw09_gcd.h3 : Hint := ⟨[(3, .any), (12, .recd [.any, .any, .any]), (13, .any)], [(3, .any)]⟩
noncomputable def parquetlaw09_gcd.h6 : Hint := ⟨[(3, .any), (5, .any), (12, .recd [.any, .any, .any]), (13, .any)], [(3, .any), (12, .recd [.any, .any, .any]), (13, .any)]⟩
noncomputable def parquetlaw09_gcd.c6 (N : Nat) : Cut := ⟨fun vs H k => match vs, H with
  | [.c (.int .i64 x9), .c (.int .i64 x10), .agg [.c (.int .i64 x11), .c (.int .i64 x12), .c (.int .i64 x13)], .c (.int .i64 x14)], [] => parquetlaw09_gcd.l6 N N x9 x10 x11 x12 x13 x14 (fun x15 x16 x17 x18 x19 => k (.exit 2) ⟨mkT parquetlaw09_gcd.h6.out [.c (.int .i64 x15), .agg [.c (.int .i64 x16), .c (.int .i64 x17), .c (.int .i64 x18)], .c (.int .i64 x19)], []⟩)
  | _, _ => none⟩
noncomputable def parquetlaw09_gcd.c3 (N : Nat) : Cut := ⟨fun vs H k => match vs, H with
  | [.c (.int .i64 x4), .agg [.c (.int .i64 x5), .c (.int .i64 x6), .c (.int .i64 x7)], .c (.int .i64 x8)], [] => parquetlaw09_gcd.l3 N N x4 x5 x6 x7 x8 (fun x25 => k (.exit 0) ⟨mkT parquetlaw09_gcd.h3.out [.c (.int .i64 x25)], []⟩)
  | _, _ => none⟩
noncomputable def parquetlaw09_gcd.E (N : Nat) : Env := { ty := lookN parquetlaw09_gcd.ty, tab := lookN [], hint := lookN [(3, parquetlaw09_gcd.h3), (6, parquetlaw09_gcd.h6)], cut := lookN [(6, parquetlaw09_gcd.c6 N), (3, parquetlaw09_gcd.c3 N)], N := N, res := [.tmp 2], rsh := [.any], nb := 0, ntmps := 28, own := false }
noncomputable def parquetlaw09_gcd.b6 : Code := inner ((subLoops parquetlaw09_gcd.body).getD 1 .skip)
set_option maxRecDepth 100000 in
theorem parquetlaw09_gcd.l6_eq {R : Type} (N n : Nat) (x9 : Int) (x10 : Int) (x11 : Int) (x12 : Int) (x13 : Int) (x14 : Int) (k : Ex → St → Option R) :
    evLoop 0 parquetlaw09_gcd.h6 (fun s k => evCode (parquetlaw09_gcd.E N) 386 parquetlaw09_gcd.b6 s k) n [.c (.int .i64 x9), .c (.int .i64 x10), .agg [.c (.int .i64 x11), .c (.int .i64 x12), .c (.int .i64 x13)], .c (.int .i64 x14)] [] k = parquetlaw09_gcd.l6 N n x9 x10 x11 x12 x13 x14 (fun x15 x16 x17 x18 x19 => k (.exit 2) ⟨mkT parquetlaw09_gcd.h6.out [.c (.int .i64 x15), .agg [.c (.int .i64 x16), .c (.int .i64 x17), .c (.int .i64 x18)], .c (.int .i64 x19)], []⟩) := by
  induction n generalizing x9 x10 x11 x12 x13 x14 with
  | zero => kernel_rfl
  | succ n ih =>
    simp only [parquetlaw09_gcd.l6, ← ih]
    kernel_rfl
noncomputable def parquetlaw09_gcd.b3 : Code := inner ((subLoops parquetlaw09_gcd.body).getD 0 .skip)
set_option maxRecDepth 100000 in
theorem parquetlaw09_gcd.l3_eq {R : Type} (N n : Nat) (x4 : Int) (x5 : Int) (x6 : Int) (x7 : Int) (x8 : Int) (k : Ex → St → Option R) :
    evLoop 0 parquetlaw09_gcd.h3 (fun s k => evCode (parquetlaw09_gcd.E N) 394 parquetlaw09_gcd.b3 s k) n [.c (.int .i64 x4), .agg [.c (.int .i64 x5), .c (.int .i64 x6), .c (.int .i64 x7)], .c (.int .i64 x8)] [] k = parquetlaw09_gcd.l3 N n x4 x5 x6 x7 x8 (fun x25 => k (.exit 0) ⟨mkT parquetlaw09_gcd.h3.out [.c (.int .i64 x25)], []⟩) := by
  induction n generalizing x4 x5 x6 x7 x8 with
  | zero => kernel_rfl
  | succ n ih =>
    simp only [parquetlaw09_gcd.l3, ← ih]
    kernel_rfl
noncomputable def parquetlaw09_gcd.dec (v : V) (bs : List Blk) : Option (Int) := match v, bs with
  | .c (.int .i64 z0), [] => some z0
  | _, _ => none
set_option maxRecDepth 100000 in
theorem parquetlaw09_gcd.f_eq (N : Nat) (a1 : Int) (a2 : Int) (a3 : Int) :
    evFun (parquetlaw09_gcd.E N) parquetlaw09_gcd.body [.agg [.c (.int .i64 a1), .c (.int .i64 a2), .c (.int .i64 a3)]] [] parquetlaw09_gcd.dec = parquetlaw09_gcd.f N a1 a2 a3 := by kernel_rfl
noncomputable def parquetlaw09_gcd.ent (N : Nat) : Entry := { A := Int, fresh := 0, imm := [true], dec := fun args bs => match freezeL 0 (fun _ => .dead) [.recd [.any, .any, .any]] args, bs with
  | some [.agg [.c (.int .i64 a1), .c (.int .i64 a2), .c (.int .i64 a3)]], [] => some (parquetlaw09_gcd.f N a1 a2 a3, fun r => .one (.c (.int .i64 r)) [])
  | _, _ => none }
theorem parquetlaw09_gcd.env (N : Nat) : EnvOK Try.prog (parquetlaw09_gcd.E N) := ⟨(TyOK.cons ty2_ok (TyOK.cons ty23_ok (TyOK.cons ty57_ok TyOK.nil))), TabOK.nil⟩
theorem parquetlaw09_gcd.res_eq (N : Nat) : (parquetlaw09_gcd.E N).res = Try.f32.results.toList := by kernel_rfl
theorem parquetlaw09_gcd.k6 (N : Nat) : CutOK Try.prog Try.f32 (parquetlaw09_gcd.E N) (.loop parquetlaw09_gcd.b6) := by
  intro e hd he hh R vs H k r h
  have e1 : (parquetlaw09_gcd.E N).cut (loopKey parquetlaw09_gcd.b6) = some (parquetlaw09_gcd.c6 N) := by kernel_rfl
  have e2 : (parquetlaw09_gcd.E N).hint (loopKey parquetlaw09_gcd.b6) = some parquetlaw09_gcd.h6 := by kernel_rfl
  rw [e1] at he; rw [e2] at hh; cases he; cases hh
  unfold parquetlaw09_gcd.c6 at h; dsimp only at h
  split at h
  · rw [← parquetlaw09_gcd.l6_eq] at h
    exact loop_ok (evCode_ok (parquetlaw09_gcd.env N) Try_mixed (parquetlaw09_gcd.res_eq N) 386 parquetlaw09_gcd.b6 (AllCut.of (l := []) (by kernel_rfl) AllCut.nil)) h
  · cases h
theorem parquetlaw09_gcd.k3 (N : Nat) : CutOK Try.prog Try.f32 (parquetlaw09_gcd.E N) (.loop parquetlaw09_gcd.b3) := by
  intro e hd he hh R vs H k r h
  have e1 : (parquetlaw09_gcd.E N).cut (loopKey parquetlaw09_gcd.b3) = some (parquetlaw09_gcd.c3 N) := by kernel_rfl
  have e2 : (parquetlaw09_gcd.E N).hint (loopKey parquetlaw09_gcd.b3) = some parquetlaw09_gcd.h3 := by kernel_rfl
  rw [e1] at he; rw [e2] at hh; cases he; cases hh
  unfold parquetlaw09_gcd.c3 at h; dsimp only at h
  split at h
  · rw [← parquetlaw09_gcd.l3_eq] at h
    exact loop_ok (evCode_ok (parquetlaw09_gcd.env N) Try_mixed (parquetlaw09_gcd.res_eq N) 394 parquetlaw09_gcd.b3 (AllCut.of (l := [(.loop (inner ((subLoops parquetlaw09_gcd.body).getD 1 .skip)))]) (by kernel_rfl) (AllCut.cons (parquetlaw09_gcd.k6 N) AllCut.nil))) h
  · cases h
theorem parquetlaw09_gcd.spec (N : Nat) (a1 : Int) (a2 : Int) (a3 : Int) (r : Int) (h : parquetlaw09_gcd.f N a1 a2 a3 = some r) : FnSpec Try.prog 32 [.agg [.c (.int .i64 a1), .c (.int .i64 a2), .c (.int .i64 a3)]] [] (.c (.int .i64 r)) ([]) := by
  rw [← parquetlaw09_gcd.f_eq] at h
  refine (evFun_ok (parquetlaw09_gcd.env N) Try_mixed Try.func32 (by kernel_rfl : Try.f32.body = some parquetlaw09_gcd.body) (by kernel_rfl) (parquetlaw09_gcd.res_eq N) (by kernel_rfl) (by kernel_rfl) (Nat.le_of_ble_eq_true (by kernel_rfl)) (AllCut.of (l := [(.loop (inner ((subLoops parquetlaw09_gcd.body).getD 0 .skip))), (.loop (inner ((subLoops parquetlaw09_gcd.body).getD 1 .skip)))]) (by kernel_rfl) (AllCut.cons (parquetlaw09_gcd.k3 N) (AllCut.cons (parquetlaw09_gcd.k6 N) AllCut.nil))) h).of fun v bs' h1 => ?_
  unfold parquetlaw09_gcd.dec at h1; split at h1
  · cases h1; exact ⟨rfl, rfl⟩
  · cases h1
theorem parquetlaw09_gcd.ent_ok (N : Nat) : TabOK1 Try.prog 32 (parquetlaw09_gcd.ent N) := by
  intro args bs a enc h
  simp only [parquetlaw09_gcd.ent] at h
  split at h
  · rename_i hz; have h0 := Option.some.inj h; have h1 := congrArg Prod.fst h0; have h2 := congrArg Prod.snd h0; dsimp only at h1 h2; subst h2; exact FnSpec.of_freeze hz (parquetlaw09_gcd.spec N _ _ _ a h1)
  · cases h
/-! parquet/parquetlaw09.CyclePlaces: function 9 -/
noncomputable def parquetlaw09_CyclePlaces.l16 {R : Type} (N : Nat) : Nat → Int → Int → Int → List Int → Int → Int → Int → Int → Int → Int → Int → Int → Int → Int → Int → Int → Int → Int → Int → Int → Int → List (List Int) → List Int → List (List Int) → (Int → Int → Int → Int → Int → Int → Int → Int → Int → Int → Int → Int → Int → Int → Int → Int → Int → List (List Int) → List Int → List (List Int) → Option R) → (Bool → Option R) → Option R
  | 0, _, _, _, _, _, _, _, _, _, _, _, _, _, _, _, _, _, _, _, _, _, _, _, _, _, _ => none
  | n + 1, x38, x39, x40, x41, x42, x43, x44, x45, x46, x47, x48, x49, x50, x51, x52, x53, x54, x55, x56, x57, x58, x59, x60, x61, k2, kr =>
    bif decide (x43 < x42) then
      bif (decide (0 ≤ x43)) && (decide (x43 < (x41.length / 3 : Int))) then
        bif (mgetI [x41.getD (x43.toNat * 3) 0, x41.getD ((x43.toNat * 3) + 1) 0, x41.getD ((x43.toNat * 3) + 2) 0] x59 x60) != 0 then
          kr false
        else
        parquetlaw09_CyclePlaces.l16 N n x38 x39 x40 x41 x42 (wi64 (x43 + 1)) x44 x45 x46 x47 x48 x49 x50 x51 x52 x53 x54 x55 x56 x57 x58 (mputK [x41.getD (x43.toNat * 3) 0, x41.getD ((x43.toNat * 3) + 1) 0, x41.getD ((x43.toNat * 3) + 2) 0] x59) (mput [x41.getD (x43.toNat * 3) 0, x41.getD ((x43.toNat * 3) + 1) 0, x41.getD ((x43.toNat * 3) + 2) 0] (wi64 (x38 + 1)) x59 x60) x61 k2 kr
      else none
    else
    k2 x39 x40 x44 x45 x46 x47 x48 x49 x50 x51 x52 x53 x54 x55 x56 x57 x58 x59 x60 x61
noncomputable def parquetlaw09_CyclePlaces.l13 {R : Type} (N : Nat) : Nat → Int → Int → Int → Int → Int → Int → Int → Int → Int → Int → Int → Int → Int → Int → Int → Int → Int → List (List Int) → List Int → List (List Int) → (Int → Int → Int → Int → Int → Int → Int → Int → Int → Int → Int → Int → Int → Int → Int → List (List Int) → List Int → Option R) → (Bool → Option R) → Option R
  | 0, _, _, _, _, _, _, _, _, _, _, _, _, _, _, _, _, _, _, _, _, _, _ => none
  | n + 1, x18, x19, x20, x21, x22, x23, x24, x25, x26, x27, x28, x29, x30, x31, x32, x33, x34, x35, x36, x37, k0, kr =>
    bif decide (x19 < x18) then
      bif (decide (0 ≤ x19)) && (decide (x19 < (x37.length : Int))) then
        parquetlaw09_CyclePlaces.l16 N N x19 x18 x19 (x37.getD x19.toNat []) (((x37.getD x19.toNat []).length) / 3 : Int) 0 x20 x21 x22 x23 x24 x25 x26 x27 x28 x29 x30 x31 x32 x33 x34 x35 x36 x37
          (fun y83 y84 y85 y86 y87 y88 y89 y90 y91 y92 y93 y94 y95 y96 y97 y98 y99 y100 y101 y102 =>
            parquetlaw09_CyclePlaces.l13 N n y83 (wi64 (y84 + 1)) y85 y86 y87 y88 y89 y90 y91 y92 y93 y94 y95 y96 y97 y98 y99 y100 y101 y102 k0 kr)
          (fun y103 =>
            kr y103)
      else none
    else
    k0 x20 x21 x22 x23 x24 x25 x26 x27 x28 x29 x30 x31 x32 x33 x34 x35 x36
noncomputable def parquetlaw09_CyclePlaces.f (N : Nat) (a1 : Int) (a2 : Int) (a3 : Int) (a4 : Int) (a5 : Int) (a6 : Int) : Option (Bool) :=
  (parquetlaw09_works.f N).bind fun r7 =>
  bif !r7 then
    some false
  else
  (cycle_Reduce.f N a1 a2 a3).bind fun r8 =>
  (cycle_Reduce.f N a4 a5 a6).bind fun r9 =>
  bif r8.2.2.2.2.2.2.2 != 0 then
    some true
  else
  bif r9.2.2.2.2.2.2.2 != 0 then
    some true
  else
  (parquetlaw09_disc.f N a1 a2 a3).bind fun r10 =>
  bif decide (r10 > 65536) then
    some true
  else
  (parquetlaw09_gcd.f N a1 a2 a3).bind fun r11 =>
  bif r11 != 1 then
    some true
  else
  (parquetlaw09_gcd.f N a4 a5 a6).bind fun r12 =>
  bif r12 != 1 then
    some true
  else
  (parquetlaw09_disc.f N a1 a2 a3).bind fun r13 =>
  (cycle_All.f N r13).bind fun r14 =>
  (parquetlaw09_disc.f N a1 a2 a3).bind fun r15 =>
  (cycle_Principal.f N r15).bind fun r16 =>
  bif r14.2 != 0 then
    some false
  else
  bif r16.2.2.2 != 0 then
    some false
  else
  (cycle_Reduced.f N r16.1 r16.2.1 r16.2.2.1).bind fun r17 =>
  bif !r17 then
    some false
  else
  bif r16.1 != 1 then
    some false
  else
  parquetlaw09_CyclePlaces.l13 N N (r14.1.length : Int) 0 a1 a2 a3 a4 a5 a6 r8.1 r8.2.1 r8.2.2.1 r9.1 r9.2.1 r9.2.2.1 r16.1 r16.2.1 r16.2.2.1 [] [] r14.1
    (fun y122 y123 y124 y125 y126 y127 y128 y129 y130 y131 y132 y133 y134 y135 y136 y137 y138 =>
      (cycle_Proper.f N y122 y123 y124 y125 y126 y127).bind fun r139 =>
      bif r139.2 == 0 then
        bif (mgetI [y128, y129, y130] y137 y138) != 0 then
          bif (mgetI [y134, y135, y136] y137 y138) != 0 then
            some (r139.1 == ((mgetI [y128, y129, y130] y137 y138) == (mgetI [y131, y132, y133] y137 y138)))
          else
          some false
        else
        some false
      else
      some false)
    (fun y140 =>
      some y140)
noncomputable def parquetlaw09_CyclePlaces.body : Code := (Try.f9.body).getD .skip
noncomputable def parquetlaw09_CyclePlaces.ty : List (Nat × TI) := [(2, ty2), (3, ty3), (4, ty4), (23, ty23), (24, ty24), (35, ty35), (49, ty49), (53, ty53)]
noncomputable def parquetlaw09_CyclePlaces.h13 : Hint := ⟨[(2, .box [.any, .any, .any]), (3, .box [.any, .any, .any]), (5, .box [.any, .any, .any]), (8, .box [.any, .any, .any]), (13, .box [.any, .any, .any]), (15, .any), (86, .nrow .i64 3), (87, .any), (88, .any)], [(2, .box [.any, .any, .any]), (3, .box [.any, .any, .any]), (5, .box [.any, .any, .any]), (8, .box [.any, .any, .any]), (13, .box [.any, .any, .any]), (15, .any)]⟩
noncomputable def parquetlaw09_CyclePlaces.h16 : Hint := ⟨[(2, .box [.any, .any, .any]), (3, .box [.any, .any, .any]), (5, .box [.any, .any, .any]), (8, .box [.any, .any, .any]), (13, .box [.any, .any, .any]), (15, .any), (16, .any), (86, .nrow .i64 3), (87, .any), (88, .any), (93, .il .i64 3), (94, .any), (95, .any)], [(2, .box [.any, .any, .any]), (3, .box [.any, .any, .any]), (5, .box [.any, .any, .any]), (8, .box [.any, .any, .any]), (13, .box [.any, .any, .any]), (15, .any), (86, .nrow .i64 3), (87, .any), (88, .any)]⟩
noncomputable def parquetlaw09_CyclePlaces.c16 (N : Nat) : Cut := ⟨fun vs H k => match vs, H with
  | [.ptr 0 0 3, .ptr 1 0 3, .ptr 2 0 3, .ptr 3 0 3, .ptr 4 0 3, .mref 5, .c (.int .i64 x38), .sw 6 1, .c (.int .i64 x39), .c (.int .i64 x40), .il .i64 3 x41, .c (.int .i64 x42), .c (.int .i64 x43)], [.vals [.c (.int .i64 x44), .c (.int .i64 x45), .c (.int .i64 x46)], .vals [.c (.int .i64 x47), .c (.int .i64 x48), .c (.int .i64 x49)], .vals [.c (.int .i64 x50), .c (.int .i64 x51), .c (.int .i64 x52)], .vals [.c (.int .i64 x53), .c (.int .i64 x54), .c (.int .i64 x55)], .vals [.c (.int .i64 x56), .c (.int .i64 x57), .c (.int .i64 x58)], .mp .i64 3 x59 (.ints .i64 x60), .nl .i64 3 x61] => parquetlaw09_CyclePlaces.l16 N N x38 x39 x40 x41 x42 x43 x44 x45 x46 x47 x48 x49 x50 x51 x52 x53 x54 x55 x56 x57 x58 x59 x60 x61 (fun x63 x64 x65 x66 x67 x68 x69 x70 x71 x72 x73 x74 x75 x76 x77 x78 x79 x80 x81 x82 => k (.exit 2) ⟨mkT parquetlaw09_CyclePlaces.h16.out [.ptr 0 0 3, .ptr 1 0 3, .ptr 2 0 3, .ptr 3 0 3, .ptr 4 0 3, .mref 5, .sw 6 1, .c (.int .i64 x63), .c (.int .i64 x64)], [.vals [.c (.int .i64 x65), .c (.int .i64 x66), .c (.int .i64 x67)], .vals [.c (.int .i64 x68), .c (.int .i64 x69), .c (.int .i64 x70)], .vals [.c (.int .i64 x71), .c (.int .i64 x72), .c (.int .i64 x73)], .vals [.c (.int .i64 x74), .c (.int .i64 x75), .c (.int .i64 x76)], .vals [.c (.int .i64 x77), .c (.int .i64 x78), .c (.int .i64 x79)], .mp .i64 3 x80 (.ints .i64 x81), .nl .i64 3 x82]⟩) (fun x62 => k (.ret (.c (.bool x62)) []) .nil)
  | _, _ => none⟩
noncomputable def parquetlaw09_CyclePlaces.c13 (N : Nat) : Cut := ⟨fun vs H k => match vs, H with
  | [.ptr 0 0 3, .ptr 1 0 3, .ptr 2 0 3, .ptr 3 0 3, .ptr 4 0 3, .mref 5, .sw 6 1, .c (.int .i64 x18), .c (.int .i64 x19)], [.vals [.c (.int .i64 x20), .c (.int .i64 x21), .c (.int .i64 x22)], .vals [.c (.int .i64 x23), .c (.int .i64 x24), .c (.int .i64 x25)], .vals [.c (.int .i64 x26), .c (.int .i64 x27), .c (.int .i64 x28)], .vals [.c (.int .i64 x29), .c (.int .i64 x30), .c (.int .i64 x31)], .vals [.c (.int .i64 x32), .c (.int .i64 x33), .c (.int .i64 x34)], .mp .i64 3 x35 (.ints .i64 x36), .nl .i64 3 x37] => parquetlaw09_CyclePlaces.l13 N N x18 x19 x20 x21 x22 x23 x24 x25 x26 x27 x28 x29 x30 x31 x32 x33 x34 x35 x36 x37 (fun x105 x106 x107 x108 x109 x110 x111 x112 x113 x114 x115 x116 x117 x118 x119 x120 x121 => k (.exit 0) ⟨mkT parquetlaw09_CyclePlaces.h13.out [.ptr 0 0 3, .ptr 1 0 3, .ptr 2 0 3, .ptr 3 0 3, .ptr 4 0 3, .mref 5], [.vals [.c (.int .i64 x105), .c (.int .i64 x106), .c (.int .i64 x107)], .vals [.c (.int .i64 x108), .c (.int .i64 x109), .c (.int .i64 x110)], .vals [.c (.int .i64 x111), .c (.int .i64 x112), .c (.int .i64 x113)], .vals [.c (.int .i64 x114), .c (.int .i64 x115), .c (.int .i64 x116)], .vals [.c (.int .i64 x117), .c (.int .i64 x118), .c (.int .i64 x119)], .mp .i64 3 x120 (.ints .i64 x121)]⟩) (fun x104 => k (.ret (.c (.bool x104)) []) .nil)
  | _, _ => none⟩
noncomputable def parquetlaw09_CyclePlaces.E (N : Nat) : Env := { ty := lookN parquetlaw09_CyclePlaces.ty, tab := lookN [(16, parquetlaw09_works.ent N), (19, cycle_Reduce.ent N), (24, parquetlaw09_disc.ent N), (32, parquetlaw09_gcd.ent N), (29, cycle_All.ent N), (28, cycle_Principal.ent N), (20, cycle_Reduced.ent N), (11, cycle_Proper.ent N)], hint := lookN [(13, parquetlaw09_CyclePlaces.h13), (16, parquetlaw09_CyclePlaces.h16)], cut := lookN [(16, parquetlaw09_CyclePlaces.c16 N), (13, parquetlaw09_CyclePlaces.c13 N)], N := N, res := [.tmp 4], rsh := [.any], nb := 0, ntmps := 140, own := false }
noncomputable def parquetlaw09_CyclePlaces.b16 : Code := inner ((subLoops parquetlaw09_CyclePlaces.body).getD 1 .skip)
set_option maxRecDepth 100000 in
theorem parquetlaw09_CyclePlaces.l16_eq {R : Type} (N n : Nat) (x38 : Int) (x39 : Int) (x40 : Int) (x41 : List Int) (x42 : Int) (x43 : Int) (x44 : Int) (x45 : Int) (x46 : Int) (x47 : Int) (x48 : Int) (x49 : Int) (x50 : Int) (x51 : Int) (x52 : Int) (x53 : Int) (x54 : Int) (x55 : Int) (x56 : Int) (x57 : Int) (x58 : Int) (x59 : List (List Int)) (x60 : List Int) (x61 : List (List Int)) (k : Ex → St → Option R) :
    evLoop 0 parquetlaw09_CyclePlaces.h16 (fun s k => evCode (parquetlaw09_CyclePlaces.E N) 379 parquetlaw09_CyclePlaces.b16 s k) n [.ptr 0 0 3, .ptr 1 0 3, .ptr 2 0 3, .ptr 3 0 3, .ptr 4 0 3, .mref 5, .c (.int .i64 x38), .sw 6 1, .c (.int .i64 x39), .c (.int .i64 x40), .il .i64 3 x41, .c (.int .i64 x42), .c (.int .i64 x43)] [.vals [.c (.int .i64 x44), .c (.int .i64 x45), .c (.int .i64 x46)], .vals [.c (.int .i64 x47), .c (.int .i64 x48), .c (.int .i64 x49)], .vals [.c (.int .i64 x50), .c (.int .i64 x51), .c (.int .i64 x52)], .vals [.c (.int .i64 x53), .c (.int .i64 x54), .c (.int .i64 x55)], .vals [.c (.int .i64 x56), .c (.int .i64 x57), .c (.int .i64 x58)], .mp .i64 3 x59 (.ints .i64 x60), .nl .i64 3 x61] k = parquetlaw09_CyclePlaces.l16 N n x38 x39 x40 x41 x42 x43 x44 x45 x46 x47 x48 x49 x50 x51 x52 x53 x54 x55 x56 x57 x58 x59 x60 x61 (fun x63 x64 x65 x66 x67 x68 x69 x70 x71 x72 x73 x74 x75 x76 x77 x78 x79 x80 x81 x82 => k (.exit 2) ⟨mkT parquetlaw09_CyclePlaces.h16.out [.ptr 0 0 3, .ptr 1 0 3, .ptr 2 0 3, .ptr 3 0 3, .ptr 4 0 3, .mref 5, .sw 6 1, .c (.int .i64 x63), .c (.int .i64 x64)], [.vals [.c (.int .i64 x65), .c (.int .i64 x66), .c (.int .i64 x67)], .vals [.c (.int .i64 x68), .c (.int .i64 x69), .c (.int .i64 x70)], .vals [.c (.int .i64 x71), .c (.int .i64 x72), .c (.int .i64 x73)], .vals [.c (.int .i64 x74), .c (.int .i64 x75), .c (.int .i64 x76)], .vals [.c (.int .i64 x77), .c (.int .i64 x78), .c (.int .i64 x79)], .mp .i64 3 x80 (.ints .i64 x81), .nl .i64 3 x82]⟩) (fun x62 => k (.ret (.c (.bool x62)) []) .nil) := by
  induction n generalizing x38 x39 x40 x41 x42 x43 x44 x45 x46 x47 x48 x49 x50 x51 x52 x53 x54 x55 x56 x57 x58 x59 x60 x61 with
  | zero => kernel_rfl
  | succ n ih =>
    simp only [parquetlaw09_CyclePlaces.l16, ← ih]
    kernel_rfl
noncomputable def parquetlaw09_CyclePlaces.b13 : Code := inner ((subLoops parquetlaw09_CyclePlaces.body).getD 0 .skip)
set_option maxRecDepth 100000 in
theorem parquetlaw09_CyclePlaces.l13_eq {R : Type} (N n : Nat) (x18 : Int) (x19 : Int) (x20 : Int) (x21 : Int) (x22 : Int) (x23 : Int) (x24 : Int) (x25 : Int) (x26 : Int) (x27 : Int) (x28 : Int) (x29 : Int) (x30 : Int) (x31 : Int) (x32 : Int) (x33 : Int) (x34 : Int) (x35 : List (List Int)) (x36 : List Int) (x37 : List (List Int)) (k : Ex → St → Option R) :
    evLoop 0 parquetlaw09_CyclePlaces.h13 (fun s k => evCode (parquetlaw09_CyclePlaces.E N) 387 parquetlaw09_CyclePlaces.b13 s k) n [.ptr 0 0 3, .ptr 1 0 3, .ptr 2 0 3, .ptr 3 0 3, .ptr 4 0 3, .mref 5, .sw 6 1, .c (.int .i64 x18), .c (.int .i64 x19)] [.vals [.c (.int .i64 x20), .c (.int .i64 x21), .c (.int .i64 x22)], .vals [.c (.int .i64 x23), .c (.int .i64 x24), .c (.int .i64 x25)], .vals [.c (.int .i64 x26), .c (.int .i64 x27), .c (.int .i64 x28)], .vals [.c (.int .i64 x29), .c (.int .i64 x30), .c (.int .i64 x31)], .vals [.c (.int .i64 x32), .c (.int .i64 x33), .c (.int .i64 x34)], .mp .i64 3 x35 (.ints .i64 x36), .nl .i64 3 x37] k = parquetlaw09_CyclePlaces.l13 N n x18 x19 x20 x21 x22 x23 x24 x25 x26 x27 x28 x29 x30 x31 x32 x33 x34 x35 x36 x37 (fun x105 x106 x107 x108 x109 x110 x111 x112 x113 x114 x115 x116 x117 x118 x119 x120 x121 => k (.exit 0) ⟨mkT parquetlaw09_CyclePlaces.h13.out [.ptr 0 0 3, .ptr 1 0 3, .ptr 2 0 3, .ptr 3 0 3, .ptr 4 0 3, .mref 5], [.vals [.c (.int .i64 x105), .c (.int .i64 x106), .c (.int .i64 x107)], .vals [.c (.int .i64 x108), .c (.int .i64 x109), .c (.int .i64 x110)], .vals [.c (.int .i64 x111), .c (.int .i64 x112), .c (.int .i64 x113)], .vals [.c (.int .i64 x114), .c (.int .i64 x115), .c (.int .i64 x116)], .vals [.c (.int .i64 x117), .c (.int .i64 x118), .c (.int .i64 x119)], .mp .i64 3 x120 (.ints .i64 x121)]⟩) (fun x104 => k (.ret (.c (.bool x104)) []) .nil) := by
  induction n generalizing x18 x19 x20 x21 x22 x23 x24 x25 x26 x27 x28 x29 x30 x31 x32 x33 x34 x35 x36 x37 with
  | zero => kernel_rfl
  | succ n ih =>
    simp only [parquetlaw09_CyclePlaces.l13, ← ih]
    kernel_rfl
noncomputable def parquetlaw09_CyclePlaces.dec (v : V) (bs : List Blk) : Option (Bool) := match v, bs with
  | .c (.bool z0), [] => some z0
  | _, _ => none
set_option maxRecDepth 100000 in
theorem parquetlaw09_CyclePlaces.f_eq (N : Nat) (a1 : Int) (a2 : Int) (a3 : Int) (a4 : Int) (a5 : Int) (a6 : Int) :
    evFun (parquetlaw09_CyclePlaces.E N) parquetlaw09_CyclePlaces.body [.agg [.c (.int .i64 a1), .c (.int .i64 a2), .c (.int .i64 a3)], .agg [.c (.int .i64 a4), .c (.int .i64 a5), .c (.int .i64 a6)]] [] parquetlaw09_CyclePlaces.dec = parquetlaw09_CyclePlaces.f N a1 a2 a3 a4 a5 a6 := by kernel_rfl
noncomputable def parquetlaw09_CyclePlaces.ent (N : Nat) : Entry := { A := Bool, fresh := 0, imm := [true, true], dec := fun args bs => match freezeL 0 (fun _ => .dead) [.recd [.any, .any, .any], .recd [.any, .any, .any]] args, bs with
  | some [.agg [.c (.int .i64 a1), .c (.int .i64 a2), .c (.int .i64 a3)], .agg [.c (.int .i64 a4), .c (.int .i64 a5), .c (.int .i64 a6)]], [] => some (parquetlaw09_CyclePlaces.f N a1 a2 a3 a4 a5 a6, fun r => .one (.c (.bool r)) [])
  | _, _ => none }
theorem parquetlaw09_CyclePlaces.env (N : Nat) : EnvOK Try.prog (parquetlaw09_CyclePlaces.E N) := ⟨(TyOK.cons ty2_ok (TyOK.cons ty3_ok (TyOK.cons ty4_ok (TyOK.cons ty23_ok (TyOK.cons ty24_ok (TyOK.cons ty35_ok (TyOK.cons ty49_ok (TyOK.cons ty53_ok TyOK.nil)))))))), (TabOK.cons (parquetlaw09_works.ent_ok N) (TabOK.cons (cycle_Reduce.ent_ok N) (TabOK.cons (parquetlaw09_disc.ent_ok N) (TabOK.cons (parquetlaw09_gcd.ent_ok N) (TabOK.cons (cycle_All.ent_ok N) (TabOK.cons (cycle_Principal.ent_ok N) (TabOK.cons (cycle_Reduced.ent_ok N) (TabOK.cons (cycle_Proper.ent_ok N) TabOK.nil))))))))⟩
theorem parquetlaw09_CyclePlaces.res_eq (N : Nat) : (parquetlaw09_CyclePlaces.E N).res = Try.f9.results.toList := by kernel_rfl
theorem parquetlaw09_CyclePlaces.k16 (N : Nat) : CutOK Try.prog Try.f9 (parquetlaw09_CyclePlaces.E N) (.loop parquetlaw09_CyclePlaces.b16) := by
  intro e hd he hh R vs H k r h
  have e1 : (parquetlaw09_CyclePlaces.E N).cut (loopKey parquetlaw09_CyclePlaces.b16) = some (parquetlaw09_CyclePlaces.c16 N) := by kernel_rfl
  have e2 : (parquetlaw09_CyclePlaces.E N).hint (loopKey parquetlaw09_CyclePlaces.b16) = some parquetlaw09_CyclePlaces.h16 := by kernel_rfl
  rw [e1] at he; rw [e2] at hh; cases he; cases hh
  unfold parquetlaw09_CyclePlaces.c16 at h; dsimp only at h
  split at h
  · rw [← parquetlaw09_CyclePlaces.l16_eq] at h
    exact loop_ok (evCode_ok (parquetlaw09_CyclePlaces.env N) Try_mixed (parquetlaw09_CyclePlaces.res_eq N) 379 parquetlaw09_CyclePlaces.b16 (AllCut.of (l := []) (by kernel_rfl) AllCut.nil)) h
  · cases h
theorem parquetlaw09_CyclePlaces.k13 (N : Nat) : CutOK Try.prog Try.f9 (parquetlaw09_CyclePlaces.E N) (.loop parquetlaw09_CyclePlaces.b13) := by
  intro e hd he hh R vs H k r h
  have e1 : (parquetlaw09_CyclePlaces.E N).cut (loopKey parquetlaw09_CyclePlaces.b13) = some (parquetlaw09_CyclePlaces.c13 N) := by kernel_rfl
  have e2 : (parquetlaw09_CyclePlaces.E N).hint (loopKey parquetlaw09_CyclePlaces.b13) = some parquetlaw09_CyclePlaces.h13 := by kernel_rfl
  rw [e1] at he; rw [e2] at hh; cases he; cases hh
  unfold parquetlaw09_CyclePlaces.c13 at h; dsimp only at h
  split at h
  · rw [← parquetlaw09_CyclePlaces.l13_eq] at h
    exact loop_ok (evCode_ok (parquetlaw09_CyclePlaces.env N) Try_mixed (parquetlaw09_CyclePlaces.res_eq N) 387 parquetlaw09_CyclePlaces.b13 (AllCut.of (l := [(.loop (inner ((subLoops parquetlaw09_CyclePlaces.body).getD 1 .skip)))]) (by kernel_rfl) (AllCut.cons (parquetlaw09_CyclePlaces.k16 N) AllCut.nil))) h
  · cases h
theorem parquetlaw09_CyclePlaces.spec (N : Nat) (a1 : Int) (a2 : Int) (a3 : Int) (a4 : Int) (a5 : Int) (a6 : Int) (r : Bool) (h : parquetlaw09_CyclePlaces.f N a1 a2 a3 a4 a5 a6 = some r) : FnSpec Try.prog 9 [.agg [.c (.int .i64 a1), .c (.int .i64 a2), .c (.int .i64 a3)], .agg [.c (.int .i64 a4), .c (.int .i64 a5), .c (.int .i64 a6)]] [] (.c (.bool r)) ([]) := by
  rw [← parquetlaw09_CyclePlaces.f_eq] at h
  refine (evFun_ok (parquetlaw09_CyclePlaces.env N) Try_mixed Try.func9 (by kernel_rfl : Try.f9.body = some parquetlaw09_CyclePlaces.body) (by kernel_rfl) (parquetlaw09_CyclePlaces.res_eq N) (by kernel_rfl) (by kernel_rfl) (Nat.le_of_ble_eq_true (by kernel_rfl)) (AllCut.of (l := [(.loop (inner ((subLoops parquetlaw09_CyclePlaces.body).getD 0 .skip))), (.loop (inner ((subLoops parquetlaw09_CyclePlaces.body).getD 1 .skip)))]) (by kernel_rfl) (AllCut.cons (parquetlaw09_CyclePlaces.k13 N) (AllCut.cons (parquetlaw09_CyclePlaces.k16 N) AllCut.nil))) h).of fun v bs' h1 => ?_
  unfold parquetlaw09_CyclePlaces.dec at h1; split at h1
  · cases h1; exact ⟨rfl, rfl⟩
  · cases h1
theorem parquetlaw09_CyclePlaces.ent_ok (N : Nat) : TabOK1 Try.prog 9 (parquetlaw09_CyclePlaces.ent N) := by
  intro args bs a enc h
  simp only [parquetlaw09_CyclePlaces.ent] at h
  split at h
  · rename_i hz; have h0 := Option.some.inj h; have h1 := congrArg Prod.fst h0; have h2 := congrArg Prod.snd h0; dsimp only at h1 h2; subst h2; exact FnSpec.of_freeze hz (parquetlaw09_CyclePlaces.spec N _ _ _ _ _ _ a h1)
  · cases h
/-! parquet/parquetlaw09.CycleKnown: function 8 -/
noncomputable def parquetlaw09_CycleKnown.f (N : Nat) : Option (Bool) :=
  (cycle_Reduce.f N 1 0 (-2)).bind fun r1 =>
  (cycle_Principal.f N 12).bind fun r2 =>
  (cycle_All.f N 12).bind fun r3 =>
  (cycle_Proper.f N 1 0 (-2) (-1) 0 2).bind fun r4 =>
  (cycle_Check.f N 1 0 (-4)).bind fun r5 =>
  bif r5 == 80 then
    (cycle_Check.f N 1 0 1).bind fun r6 =>
    bif r6 == 80 then
      (cycle_Check.f N 1 0 0).bind fun r7 =>
      bif r7 == 80 then
        (cycle_Check.f N 1073741825 0 (-2)).bind fun r8 =>
        bif r1.2.2.2.2.2.2.2 == 0 then
          bif (r1.1 == 1) && ((r1.2.1 == 2) && (r1.2.2.1 == (-1))) then
            bif (r1.2.2.2.1 == (-1)) && ((r1.2.2.2.2.1 == (-1)) && ((r1.2.2.2.2.2.1 == 0) && (r1.2.2.2.2.2.2.1 == (-1)))) then
              bif r2.2.2.2 == 0 then
                bif (r2.1 == 1) && ((r2.2.1 == 2) && (r2.2.2.1 == (-2))) then
                  bif r3.2 == 0 then
                    bif (r3.1.length : Int) == 2 then
                      bif decide (0 < (r3.1.length : Int)) then
                        bif decide (0 < (((r3.1.getD 0 []).length) / 3 : Int)) then
                          bif (((r3.1.getD 0 []).getD 0 0) == (-2)) && ((((r3.1.getD 0 []).getD 1 0) == 2) && (((r3.1.getD 0 []).getD 2 0) == 1)) then
                            bif decide (1 < (r3.1.length : Int)) then
                              bif decide (1 < (((r3.1.getD 1 []).length) / 3 : Int)) then
                                bif (((r3.1.getD 1 []).getD 3 0) == 2) && ((((r3.1.getD 1 []).getD 4 0) == 2) && (((r3.1.getD 1 []).getD 5 0) == (-1))) then
                                  bif r4.1 then
                                    bif r4.2 == 0 then
                                      bif r8 == 3 then
                                        (parquetlaw09_works.f N).bind fun r9 =>
                                        some r9
                                      else
                                      some false
                                    else
                                    some false
                                  else
                                  some false
                                else
                                some false
                              else none
                            else none
                          else
                          some false
                        else none
                      else none
                    else
                    some false
                  else
                  some false
                else
                some false
              else
              some false
            else
            some false
          else
          some false
        else
        some false
      else
      bif r1.2.2.2.2.2.2.2 == 0 then
        bif (r1.1 == 1) && ((r1.2.1 == 2) && (r1.2.2.1 == (-1))) then
          bif (r1.2.2.2.1 == (-1)) && ((r1.2.2.2.2.1 == (-1)) && ((r1.2.2.2.2.2.1 == 0) && (r1.2.2.2.2.2.2.1 == (-1)))) then
            bif r2.2.2.2 == 0 then
              bif (r2.1 == 1) && ((r2.2.1 == 2) && (r2.2.2.1 == (-2))) then
                bif r3.2 == 0 then
                  bif (r3.1.length : Int) == 2 then
                    bif decide (0 < (r3.1.length : Int)) then
                      bif decide (0 < (((r3.1.getD 0 []).length) / 3 : Int)) then
                        bif (((r3.1.getD 0 []).getD 0 0) == (-2)) && ((((r3.1.getD 0 []).getD 1 0) == 2) && (((r3.1.getD 0 []).getD 2 0) == 1)) then
                          bif decide (1 < (r3.1.length : Int)) then
                            bif decide (1 < (((r3.1.getD 1 []).length) / 3 : Int)) then
                              bif (((r3.1.getD 1 []).getD 3 0) == 2) && ((((r3.1.getD 1 []).getD 4 0) == 2) && (((r3.1.getD 1 []).getD 5 0) == (-1))) then
                                bif r4.1 then
                                  bif r4.2 == 0 then
                                    some false
                                  else
                                  some false
                                else
                                some false
                              else
                              some false
                            else none
                          else none
                        else
                        some false
                      else none
                    else none
                  else
                  some false
                else
                some false
              else
              some false
            else
            some false
          else
          some false
        else
        some false
      else
      some false
    else
    bif r1.2.2.2.2.2.2.2 == 0 then
      bif (r1.1 == 1) && ((r1.2.1 == 2) && (r1.2.2.1 == (-1))) then
        bif (r1.2.2.2.1 == (-1)) && ((r1.2.2.2.2.1 == (-1)) && ((r1.2.2.2.2.2.1 == 0) && (r1.2.2.2.2.2.2.1 == (-1)))) then
          bif r2.2.2.2 == 0 then
            bif (r2.1 == 1) && ((r2.2.1 == 2) && (r2.2.2.1 == (-2))) then
              bif r3.2 == 0 then
                bif (r3.1.length : Int) == 2 then
                  bif decide (0 < (r3.1.length : Int)) then
                    bif decide (0 < (((r3.1.getD 0 []).length) / 3 : Int)) then
                      bif (((r3.1.getD 0 []).getD 0 0) == (-2)) && ((((r3.1.getD 0 []).getD 1 0) == 2) && (((r3.1.getD 0 []).getD 2 0) == 1)) then
                        bif decide (1 < (r3.1.length : Int)) then
                          bif decide (1 < (((r3.1.getD 1 []).length) / 3 : Int)) then
                            bif (((r3.1.getD 1 []).getD 3 0) == 2) && ((((r3.1.getD 1 []).getD 4 0) == 2) && (((r3.1.getD 1 []).getD 5 0) == (-1))) then
                              bif r4.1 then
                                bif r4.2 == 0 then
                                  some false
                                else
                                some false
                              else
                              some false
                            else
                            some false
                          else none
                        else none
                      else
                      some false
                    else none
                  else none
                else
                some false
              else
              some false
            else
            some false
          else
          some false
        else
        some false
      else
      some false
    else
    some false
  else
  bif r1.2.2.2.2.2.2.2 == 0 then
    bif (r1.1 == 1) && ((r1.2.1 == 2) && (r1.2.2.1 == (-1))) then
      bif (r1.2.2.2.1 == (-1)) && ((r1.2.2.2.2.1 == (-1)) && ((r1.2.2.2.2.2.1 == 0) && (r1.2.2.2.2.2.2.1 == (-1)))) then
        bif r2.2.2.2 == 0 then
          bif (r2.1 == 1) && ((r2.2.1 == 2) && (r2.2.2.1 == (-2))) then
            bif r3.2 == 0 then
              bif (r3.1.length : Int) == 2 then
                bif decide (0 < (r3.1.length : Int)) then
                  bif decide (0 < (((r3.1.getD 0 []).length) / 3 : Int)) then
                    bif (((r3.1.getD 0 []).getD 0 0) == (-2)) && ((((r3.1.getD 0 []).getD 1 0) == 2) && (((r3.1.getD 0 []).getD 2 0) == 1)) then
                      bif decide (1 < (r3.1.length : Int)) then
                        bif decide (1 < (((r3.1.getD 1 []).length) / 3 : Int)) then
                          bif (((r3.1.getD 1 []).getD 3 0) == 2) && ((((r3.1.getD 1 []).getD 4 0) == 2) && (((r3.1.getD 1 []).getD 5 0) == (-1))) then
                            bif r4.1 then
                              bif r4.2 == 0 then
                                some false
                              else
                              some false
                            else
                            some false
                          else
                          some false
                        else none
                      else none
                    else
                    some false
                  else none
                else none
              else
              some false
            else
            some false
          else
          some false
        else
        some false
      else
      some false
    else
    some false
  else
  some false
noncomputable def parquetlaw09_CycleKnown.body : Code := (Try.f8.body).getD .skip
noncomputable def parquetlaw09_CycleKnown.ty : List (Nat × TI) := [(2, ty2), (23, ty23), (24, ty24), (35, ty35), (49, ty49)]
noncomputable def parquetlaw09_CycleKnown.E (N : Nat) : Env := { ty := lookN parquetlaw09_CycleKnown.ty, tab := lookN [(19, cycle_Reduce.ent N), (28, cycle_Principal.ent N), (29, cycle_All.ent N), (11, cycle_Proper.ent N), (17, cycle_Check.ent N), (16, parquetlaw09_works.ent N)], hint := lookN [], cut := lookN [], N := N, res := [.tmp 0], rsh := [.any], nb := 0, ntmps := 110, own := false }
noncomputable def parquetlaw09_CycleKnown.dec (v : V) (bs : List Blk) : Option (Bool) := match v, bs with
  | .c (.bool z0), [] => some z0
  | _, _ => none
set_option maxRecDepth 100000 in
theorem parquetlaw09_CycleKnown.f_eq (N : Nat) :
    evFun (parquetlaw09_CycleKnown.E N) parquetlaw09_CycleKnown.body [] [] parquetlaw09_CycleKnown.dec = parquetlaw09_CycleKnown.f N := by kernel_rfl
noncomputable def parquetlaw09_CycleKnown.ent (N : Nat) : Entry := { A := Bool, fresh := 0, imm := [], dec := fun args bs => match freezeL 0 (fun _ => .dead) [] args, bs with
  | some [], [] => some (parquetlaw09_CycleKnown.f N, fun r => .one (.c (.bool r)) [])
  | _, _ => none }
theorem parquetlaw09_CycleKnown.env (N : Nat) : EnvOK Try.prog (parquetlaw09_CycleKnown.E N) := ⟨(TyOK.cons ty2_ok (TyOK.cons ty23_ok (TyOK.cons ty24_ok (TyOK.cons ty35_ok (TyOK.cons ty49_ok TyOK.nil))))), (TabOK.cons (cycle_Reduce.ent_ok N) (TabOK.cons (cycle_Principal.ent_ok N) (TabOK.cons (cycle_All.ent_ok N) (TabOK.cons (cycle_Proper.ent_ok N) (TabOK.cons (cycle_Check.ent_ok N) (TabOK.cons (parquetlaw09_works.ent_ok N) TabOK.nil))))))⟩
theorem parquetlaw09_CycleKnown.res_eq (N : Nat) : (parquetlaw09_CycleKnown.E N).res = Try.f8.results.toList := by kernel_rfl
theorem parquetlaw09_CycleKnown.spec (N : Nat) (r : Bool) (h : parquetlaw09_CycleKnown.f N = some r) : FnSpec Try.prog 8 [] [] (.c (.bool r)) ([]) := by
  rw [← parquetlaw09_CycleKnown.f_eq] at h
  refine (evFun_ok (parquetlaw09_CycleKnown.env N) Try_mixed Try.func8 (by kernel_rfl : Try.f8.body = some parquetlaw09_CycleKnown.body) (by kernel_rfl) (parquetlaw09_CycleKnown.res_eq N) (by kernel_rfl) (by kernel_rfl) (Nat.le_of_ble_eq_true (by kernel_rfl)) (AllCut.of (l := []) (by kernel_rfl) AllCut.nil) h).of fun v bs' h1 => ?_
  unfold parquetlaw09_CycleKnown.dec at h1; split at h1
  · cases h1; exact ⟨rfl, rfl⟩
  · cases h1
theorem parquetlaw09_CycleKnown.ent_ok (N : Nat) : TabOK1 Try.prog 8 (parquetlaw09_CycleKnown.ent N) := by
  intro args bs a enc h
  simp only [parquetlaw09_CycleKnown.ent] at h
  split at h
  · rename_i hz; have h0 := Option.some.inj h; have h1 := congrArg Prod.fst h0; have h2 := congrArg Prod.snd h0; dsimp only at h1 h2; subst h2; exact FnSpec.of_freeze hz (parquetlaw09_CycleKnown.spec N a h1)
  · cases h
end Go.Proofs.Ytlofhdoefjmabaa
