-- slices.SortFunc at the seat's forms: the library's functions laid, the law as the evaluator asks it.
import Derived.Test.YtifnooogklfifaaT4
import Derived.Test.YtifnooogklfifaaEvF
import Derived.Shelf.SlGeneric
import Derived.KernelRfl
namespace Go.Proofs.Ytifnooogklfifaa
open Go.Proofs.Ytifnooogklfifaa.Ev Go.Shelf
set_option linter.unusedVariables false
open Go
def sortB_ren : Go.Shelf.Ren := ⟨fun | 6 => 43 | 15 => 51 | 14 => 50 | 28 => 65 | 29 => 66 | 20 => 57 | 21 => 58 | 22 => 59 | 23 => 60 | 24 => 61 | 25 => 62 | 26 => 63 | 27 => 64 | 46 => 75 | 47 => 76 | 48 => 77 | 49 => 78 | 50 => 79 | 57 => 88 | n => n, fun | 22 => 22 | 24 => 33 | 25 => 65 | 3 => 3 | 39 => 70 | 0 => 0 | 53 => 92 | 55 => 94 | 4 => 4 | 46 => 85 | 45 => 84 | 50 => 89 | 5 => 5 | 9 => 9 | 66 => 105 | 70 => 109 | 76 => 118 | 77 => 119 | n => n, fun | n => n⟩
theorem sortB : Go.Proofs.SlLaysF0.n6 Try.prog sortB_ren := {
  mixed := by kernel_rfl
  f6 := ⟨Try.f43.name, by decide, Try.func43.trans (congrArg some (by kernel_rfl))⟩
  f14 := ⟨Try.f50.name, by decide, Try.func50.trans (congrArg some (by kernel_rfl))⟩
  f15 := Try.func51.trans (congrArg some (by kernel_rfl))
  f20 := ⟨Try.f57.name, by decide, Try.func57.trans (congrArg some (by kernel_rfl))⟩
  f21 := ⟨Try.f58.name, by decide, Try.func58.trans (congrArg some (by kernel_rfl))⟩
  f22 := ⟨Try.f59.name, by decide, Try.func59.trans (congrArg some (by kernel_rfl))⟩
  f23 := ⟨Try.f60.name, by decide, Try.func60.trans (congrArg some (by kernel_rfl))⟩
  f24 := ⟨Try.f61.name, by decide, Try.func61.trans (congrArg some (by kernel_rfl))⟩
  f25 := ⟨Try.f62.name, by decide, Try.func62.trans (congrArg some (by kernel_rfl))⟩
  f26 := ⟨Try.f63.name, by decide, Try.func63.trans (congrArg some (by kernel_rfl))⟩
  f27 := ⟨Try.f64.name, by decide, Try.func64.trans (congrArg some (by kernel_rfl))⟩
  f28 := Try.func65.trans (congrArg some (by kernel_rfl))
  f29 := Try.func66.trans (congrArg some (by kernel_rfl))
  f46 := ⟨Try.f75.name, by decide, Try.func75.trans (congrArg some (by kernel_rfl))⟩
  f47 := Try.func76.trans (congrArg some (by kernel_rfl))
  f48 := Try.func77.trans (congrArg some (by kernel_rfl))
  f49 := ⟨Try.f78.name, by decide, Try.func78.trans (congrArg some (by kernel_rfl))⟩
  f50 := ⟨Try.f79.name, by decide, Try.func79.trans (congrArg some (by kernel_rfl))⟩
  f57 := ⟨Try.f88.name, by decide, Try.func88.trans (congrArg some (by kernel_rfl))⟩
  t0 := Try.underlying0
  a0 := Try.isAgg0
  z0 := Try.sizeOf0
  v0 := Try.zeroValue0
  t3 := Try.underlying3
  a3 := Try.isAgg3
  z3 := Try.sizeOf3
  v3 := Try.zeroValue3
  t4 := Try.underlying4
  a4 := Try.isAgg4
  z4 := Try.sizeOf4
  v4 := Try.zeroValue4
  t5 := Try.underlying5
  a5 := Try.isAgg5
  z5 := Try.sizeOf5
  v5 := Try.zeroValue5
  t9 := Try.underlying9
  a9 := Try.isAgg9
  z9 := Try.sizeOf9
  v9 := Try.zeroValue9
  t22 := Try.underlying22
  a22 := Try.isAgg22
  z22 := Try.sizeOf22
  v22 := Try.zeroValue22
  t25 := Try.underlying65
  a25 := Try.isAgg65
  z25 := Try.sizeOf65
  v25 := Try.zeroValue65
  t39 := Try.underlying70
  a39 := Try.isAgg70
  z39 := Try.sizeOf70
  v39 := Try.zeroValue70
  t45 := Try.underlying84
  a45 := Try.isAgg84
  z45 := Try.sizeOf84
  v45 := Try.zeroValue84
  t46 := Try.underlying85
  a46 := Try.isAgg85
  z46 := Try.sizeOf85
  v46 := Try.zeroValue85
  t50 := Try.underlying89
  a50 := Try.isAgg89
  z50 := Try.sizeOf89
  v50 := Try.zeroValue89
  t53 := Try.underlying92
  a53 := Try.isAgg92
  z53 := Try.sizeOf92
  v53 := Try.zeroValue92
  t55 := Try.underlying94
  a55 := Try.isAgg94
  z55 := Try.sizeOf94
  v55 := Try.zeroValue94
  t66 := Try.underlying105
  a66 := Try.isAgg105
  z66 := Try.sizeOf105
  v66 := Try.zeroValue105
  t70 := Try.underlying109
  a70 := Try.isAgg109
  z70 := Try.sizeOf109
  v70 := Try.zeroValue109
  t76 := Try.underlying118
  a76 := Try.isAgg118
  z76 := Try.sizeOf118
  v76 := Try.zeroValue118
  t77 := Try.underlying119
  a77 := Try.isAgg119
  z77 := Try.sizeOf119
  v77 := Try.zeroValue119 }


theorem or_told (a b c : Int) : cmp_Or_int_.f 10 [a, b, c] = some (if a ≠ 0 then a else if b ≠ 0 then b else c) := by
  unfold cmp_Or_int_.f
  have w1 : wi64 (0 + 1) = 1 := by decide
  have w2 : wi64 (1 + 1) = 2 := by decide
  have w3 : wi64 (2 + 1) = 3 := by decide
  simp only [cmp_Or_int_.l3, w1, w2, w3]
  have e : ∀ x : Int, ¬ x = 0 → (x != 0) = true := fun x hx => by simpa using hx
  by_cases h1 : a = 0 <;> by_cases h2 : b = 0 <;> by_cases h3 : c = 0 <;> simp [h1, h2, h3, e]

theorem compare_told (N : Nat) (a b : Int) : cmp_Compare_int64_.f N a b = some (if a < b then -1 else if b < a then 1 else 0) := by
  unfold cmp_Compare_int64_.f cmp_isNaN_int64_.f
  by_cases h1 : a < b <;> by_cases h2 : b < a <;> simp [h1, h2]

theorem cmp_told (x y : R3) : classes_all_1.f 10 x.1 x.2.1 x.2.2 y.1 y.2.1 y.2.2 = some (cmp3 x y) := by
  unfold classes_all_1.f cmp3
  rw [compare_told, compare_told, compare_told]
  simp only [Option.bind_some, or_told]
  congr 1
  repeat' split
  all_goals omega

noncomputable def slices_SortFunc___parquet_api_Binary_parquet_api_Binary_.f (N : Nat) (l : List Int) : Option (List Int) := bif Nat.blt l.length 4611686018427387904 then some (sort3 l) else none
noncomputable def slices_SortFunc___parquet_api_Binary_parquet_api_Binary_.ent (N : Nat) : Entry := { A := List Int, fresh := 0, imm := [false, false], dec := fun args bs => match args, bs with
  | [.sw 0 3, .fn g [] []], [.ints .i64 l] => bif Nat.beq g 44 then some (slices_SortFunc___parquet_api_Binary_parquet_api_Binary_.f N l, fun r => .one (.c (.tuple #[])) [.ints .i64 r]) else none
  | _, _ => none }

theorem slices_SortFunc___parquet_api_Binary_parquet_api_Binary_.ent_ok (N : Nat) : TabOK1 Try.prog 43 (slices_SortFunc___parquet_api_Binary_parquet_api_Binary_.ent N) := by
  intro args bs a enc h
  simp only [slices_SortFunc___parquet_api_Binary_parquet_api_Binary_.ent] at h
  split at h
  · rename_i g l
    obtain ⟨hg, h⟩ := cond_some h
    have hg := beq_eq hg
    subst hg
    have h0 := Option.some.inj h; have h1 := congrArg Prod.fst h0; have h2 := congrArg Prod.snd h0; dsimp only at h1 h2; subst h2
    unfold slices_SortFunc___parquet_api_Binary_parquet_api_Binary_.f at h1
    obtain ⟨hl, h1⟩ := cond_some h1
    obtain rfl := Option.some.inj h1
    exact sort_spec sortB Try.isAgg33 Try.sizeOf33 ⟨_, Try.func43, by kernel_rfl, by kernel_rfl⟩ (enters_of Try.func44 (by kernel_rfl) rfl) (fun x y => classes_all_1.spec 10 _ _ _ _ _ _ _ (cmp_told x y)) l (blt_lt hl)
  · cases h
end Go.Proofs.Ytifnooogklfifaa
