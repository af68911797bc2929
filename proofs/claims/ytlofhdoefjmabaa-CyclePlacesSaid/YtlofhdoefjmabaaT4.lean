-- slices.SortFunc at the seat's forms: the library's functions laid, the law as the evaluator asks it.
import Derived.Test.YtlofhdoefjmabaaT3
import Derived.Test.YtlofhdoefjmabaaEvF
import Derived.Shelf.SlGeneric
import Derived.KernelRfl
namespace Go.Proofs.Ytlofhdoefjmabaa
open Go.Proofs.Ytlofhdoefjmabaa.Ev Go.Shelf
set_option linter.unusedVariables false
open Go
def sortB_ren : Go.Shelf.Ren := ⟨fun | 6 => 46 | 15 => 53 | 14 => 52 | 28 => 65 | 29 => 51 | 20 => 57 | 21 => 58 | 22 => 59 | 23 => 60 | 24 => 61 | 25 => 62 | 26 => 63 | 27 => 64 | 46 => 67 | 47 => 68 | 48 => 69 | 49 => 70 | 50 => 71 | 57 => 72 | n => n, fun | 22 => 24 | 24 => 23 | 25 => 65 | 3 => 3 | 39 => 73 | 0 => 0 | 53 => 86 | 55 => 70 | 4 => 4 | 46 => 79 | 45 => 78 | 50 => 83 | 5 => 5 | 9 => 9 | 66 => 88 | 70 => 92 | 76 => 94 | 77 => 95 | n => n, fun | n => n⟩
theorem sortB : Go.Proofs.SlLaysF0.n6 Try.prog sortB_ren := {
  mixed := by kernel_rfl
  f6 := ⟨Try.f46.name, by decide, Try.func46.trans (congrArg some (by kernel_rfl))⟩
  f14 := ⟨Try.f52.name, by decide, Try.func52.trans (congrArg some (by kernel_rfl))⟩
  f15 := Try.func53.trans (congrArg some (by kernel_rfl))
  f20 := ⟨Try.f57.name, by decide, Try.func57.trans (congrArg some (by kernel_rfl))⟩
  f21 := ⟨Try.f58.name, by decide, Try.func58.trans (congrArg some (by kernel_rfl))⟩
  f22 := ⟨Try.f59.name, by decide, Try.func59.trans (congrArg some (by kernel_rfl))⟩
  f23 := ⟨Try.f60.name, by decide, Try.func60.trans (congrArg some (by kernel_rfl))⟩
  f24 := ⟨Try.f61.name, by decide, Try.func61.trans (congrArg some (by kernel_rfl))⟩
  f25 := ⟨Try.f62.name, by decide, Try.func62.trans (congrArg some (by kernel_rfl))⟩
  f26 := ⟨Try.f63.name, by decide, Try.func63.trans (congrArg some (by kernel_rfl))⟩
  f27 := ⟨Try.f64.name, by decide, Try.func64.trans (congrArg some (by kernel_rfl))⟩
  f28 := Try.func65.trans (congrArg some (by kernel_rfl))
  f29 := Try.func51.trans (congrArg some (by kernel_rfl))
  f46 := ⟨Try.f67.name, by decide, Try.func67.trans (congrArg some (by kernel_rfl))⟩
  f47 := Try.func68.trans (congrArg some (by kernel_rfl))
  f48 := Try.func69.trans (congrArg some (by kernel_rfl))
  f49 := ⟨Try.f70.name, by decide, Try.func70.trans (congrArg some (by kernel_rfl))⟩
  f50 := ⟨Try.f71.name, by decide, Try.func71.trans (congrArg some (by kernel_rfl))⟩
  f57 := ⟨Try.f72.name, by decide, Try.func72.trans (congrArg some (by kernel_rfl))⟩
  t0 := Try.underlying0
  a0 := Try.isAgg0
  z0 := Try.sizeOf0
  v0 := Try.zeroValue0
  t3 := Try.underlying3
  a3 := Try.isAgg3
  z3 := Try.sizeOf3
  v3 := Try.zeroValue3
  t4 := Try.underlying4
  a4 := Try.isAgg4
  z4 := Try.sizeOf4
  v4 := Try.zeroValue4
  t5 := Try.underlying5
  a5 := Try.isAgg5
  z5 := Try.sizeOf5
  v5 := Try.zeroValue5
  t9 := Try.underlying9
  a9 := Try.isAgg9
  z9 := Try.sizeOf9
  v9 := Try.zeroValue9
  t22 := Try.underlying24
  a22 := Try.isAgg24
  z22 := Try.sizeOf24
  v22 := Try.zeroValue24
  t25 := Try.underlying65
  a25 := Try.isAgg65
  z25 := Try.sizeOf65
  v25 := Try.zeroValue65
  t39 := Try.underlying73
  a39 := Try.isAgg73
  z39 := Try.sizeOf73
  v39 := Try.zeroValue73
  t45 := Try.underlying78
  a45 := Try.isAgg78
  z45 := Try.sizeOf78
  v45 := Try.zeroValue78
  t46 := Try.underlying79
  a46 := Try.isAgg79
  z46 := Try.sizeOf79
  v46 := Try.zeroValue79
  t50 := Try.underlying83
  a50 := Try.isAgg83
  z50 := Try.sizeOf83
  v50 := Try.zeroValue83
  t53 := Try.underlying86
  a53 := Try.isAgg86
  z53 := Try.sizeOf86
  v53 := Try.zeroValue86
  t55 := Try.underlying70
  a55 := Try.isAgg70
  z55 := Try.sizeOf70
  v55 := Try.zeroValue70
  t66 := Try.underlying88
  a66 := Try.isAgg88
  z66 := Try.sizeOf88
  v66 := Try.zeroValue88
  t70 := Try.underlying92
  a70 := Try.isAgg92
  z70 := Try.sizeOf92
  v70 := Try.zeroValue92
  t76 := Try.underlying94
  a76 := Try.isAgg94
  z76 := Try.sizeOf94
  v76 := Try.zeroValue94
  t77 := Try.underlying95
  a77 := Try.isAgg95
  z77 := Try.sizeOf95
  v77 := Try.zeroValue95 }


theorem or_told (a b c : Int) : cmp_Or_int_.f 10 [a, b, c] = some (if a ≠ 0 then a else if b ≠ 0 then b else c) := by
  unfold cmp_Or_int_.f
  have w1 : wi64 (0 + 1) = 1 := by decide
  have w2 : wi64 (1 + 1) = 2 := by decide
  have w3 : wi64 (2 + 1) = 3 := by decide
  simp only [cmp_Or_int_.l3, w1, w2, w3]
  have e : ∀ x : Int, ¬ x = 0 → (x != 0) = true := fun x hx => by simpa using hx
  by_cases h1 : a = 0 <;> by_cases h2 : b = 0 <;> by_cases h3 : c = 0 <;> simp [h1, h2, h3, e]

theorem compare_told (N : Nat) (a b : Int) : cmp_Compare_int64_.f N a b = some (if a < b then -1 else if b < a then 1 else 0) := by
  unfold cmp_Compare_int64_.f cmp_isNaN_int64_.f
  by_cases h1 : a < b <;> by_cases h2 : b < a <;> simp [h1, h2]

theorem cmp_told (x y : R3) : cycle_rises.f 10 x.1 x.2.1 x.2.2 y.1 y.2.1 y.2.2 = some (cmp3 x y) := by
  unfold cycle_rises.f cmp3
  rw [compare_told, compare_told, compare_told]
  simp only [Option.bind_some, or_told]
  congr 1
  repeat' split
  all_goals omega

noncomputable def slices_SortFunc___parquet_api_Binary_parquet_api_Binary_.f (N : Nat) (l : List Int) : Option (List Int) := bif Nat.blt l.length 4611686018427387904 then some (sort3 l) else none
noncomputable def slices_SortFunc___parquet_api_Binary_parquet_api_Binary_.ent (N : Nat) : Entry := { A := List Int, fresh := 0, imm := [false, false], dec := fun args bs => match args, bs with
  | [.sw 0 3, .fn g [] []], [.ints .i64 l] => bif Nat.beq g 47 then some (slices_SortFunc___parquet_api_Binary_parquet_api_Binary_.f N l, fun r => .one (.c (.tuple #[])) [.ints .i64 r]) else none
  | _, _ => none }

theorem slices_SortFunc___parquet_api_Binary_parquet_api_Binary_.ent_ok (N : Nat) : TabOK1 Try.prog 46 (slices_SortFunc___parquet_api_Binary_parquet_api_Binary_.ent N) := by
  intro args bs a enc h
  simp only [slices_SortFunc___parquet_api_Binary_parquet_api_Binary_.ent] at h
  split at h
  · rename_i g l
    obtain ⟨hg, h⟩ := cond_some h
    have hg := beq_eq hg
    subst hg
    have h0 := Option.some.inj h; have h1 := congrArg Prod.fst h0; have h2 := congrArg Prod.snd h0; dsimp only at h1 h2; subst h2
    unfold slices_SortFunc___parquet_api_Binary_parquet_api_Binary_.f at h1
    obtain ⟨hl, h1⟩ := cond_some h1
    obtain rfl := Option.some.inj h1
    exact sort_spec sortB Try.isAgg23 Try.sizeOf23 ⟨_, Try.func46, by kernel_rfl, by kernel_rfl⟩ (enters_of Try.func47 (by kernel_rfl) rfl) (fun x y => cycle_rises.spec 10 _ _ _ _ _ _ _ (cmp_told x y)) l (blt_lt hl)
  · cases h
end Go.Proofs.Ytlofhdoefjmabaa
