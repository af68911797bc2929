-- Plain laws of the row law11: ClassKnown.
import Derived.Test.YtifnooogklfifaaPg
namespace Go.Proofs.Ytifnooogklfifaa.Cls
open Go Go.Proofs.Ytifnooogklfifaa.Ev
set_option linter.unusedVariables false

theorem hur_of {n h : Int} (h0 : 0 ≤ n) (h1 : n ≤ 65536) (hr : parquetref11_Hurwitz.f N0 n = some h) : classes_Hurwitz.f N0 n = some (h, 0) := by
  obtain ⟨x, k1, k2, _⟩ := hur_told (N := N0) (by decide) h0 h1
  rw [hr] at k2
  obtain rfl := Option.some.inj k2
  exact k1

theorem place_known : classes_Place.f N0 3 1 2 = some (1, 0) := by
  have hR : binary_Reduce.f N0 3 1 2 = some (2, -1, 3, 0, -1, 1, 0, 0) := by kernel_rfl
  have hD : binary_Disc.f N0 2 (-1) 3 = some (-23) := by kernel_rfl
  have hC : binary_Content.f N0 2 (-1) 3 = some 1 := content_cont (by decide) (by decide) (by decide) (by decide) (by decide) (by decide) (by decide)
  have hA : classes_all.f N0 (-23) = some [1, 1, 6, 2, -1, 3, 2, 1, 3] := by
    obtain ⟨L, l1, l2, l3, _⟩ := cls_told (N := N0) (by decide) (d := -23) ⟨by decide, by decide, by decide⟩
    have h : parquetref11_All.f N0 (-23) = some [1, 1, 6, 2, -1, 3, 2, 1, 3] := by kernel_rfl
    rw [l2, ← l3, h]
  unfold classes_Place.f
  rw [hR]
  simp only [Option.bind_some]
  rw [hD]
  simp only [Option.bind_some]
  rw [hC]
  simp only [Option.bind_some]
  rw [hA]
  exact (by kernel_rfl : (bif (0 : Int) != 0 then some ((0 : Int), (0 : Int)) else bif decide ((-23 : Int) < -65536) then some (0, 80) else bif (1 : Int) != 1 then some (0, 81) else (some [1, 1, 6, 2, -1, 3, 2, 1, 3]).bind fun r8 => (slices_Index___parquet_api_Binary_parquet_api_Binary_.f N0 r8 2 (-1) 3).bind fun r9 => some (r9, 0)) = some (1, 0))
end Go.Proofs.Ytifnooogklfifaa.Cls

namespace Go.Proofs.Ytifnooogklfifaa.Pure
open Go Go.Proofs.Ytifnooogklfifaa.Ev Go.Proofs.Ytifnooogklfifaa.Cls

theorem ClassKnown : ∃ N, parquetlaw11_ClassKnown.f N = some true := by
  refine ⟨N0, ?_⟩
  have n1 := fun (d : Int) (l : List Int) (hd : Lst d) (h : parquetref11_All.f N0 d = some l) => (number_of hd h).2
  have a1 := (number_of (d := -23) (l := [1, 1, 6, 2, -1, 3, 2, 1, 3]) ⟨by decide, by decide, by decide⟩ (by kernel_rfl)).1
  unfold parquetlaw11_ClassKnown.f
  rw [n1 (-3) [1, 1, 1] ⟨by decide, by decide, by decide⟩ (by kernel_rfl), n1 (-4) [1, 0, 1] ⟨by decide, by decide, by decide⟩ (by kernel_rfl), n1 (-7) [1, 1, 2] ⟨by decide, by decide, by decide⟩ (by kernel_rfl),
    n1 (-8) [1, 0, 2] ⟨by decide, by decide, by decide⟩ (by kernel_rfl), n1 (-11) [1, 1, 3] ⟨by decide, by decide, by decide⟩ (by kernel_rfl), n1 (-19) [1, 1, 5] ⟨by decide, by decide, by decide⟩ (by kernel_rfl),
    n1 (-43) [1, 1, 11] ⟨by decide, by decide, by decide⟩ (by kernel_rfl), n1 (-67) [1, 1, 17] ⟨by decide, by decide, by decide⟩ (by kernel_rfl), n1 (-163) [1, 1, 41] ⟨by decide, by decide, by decide⟩ (by kernel_rfl), a1,
    hur_of (n := 0) (h := (-1)) (by decide) (by decide) (by kernel_rfl), hur_of (n := 1) (h := 0) (by decide) (by decide) (by kernel_rfl), hur_of (n := 2) (h := 0) (by decide) (by decide) (by kernel_rfl), hur_of (n := 3) (h := 4) (by decide) (by decide) (by kernel_rfl), hur_of (n := 4) (h := 6) (by decide) (by decide) (by kernel_rfl), hur_of (n := 5) (h := 0) (by decide) (by decide) (by kernel_rfl), hur_of (n := 6) (h := 0) (by decide) (by decide) (by kernel_rfl), hur_of (n := 7) (h := 12) (by decide) (by decide) (by kernel_rfl), hur_of (n := 8) (h := 12) (by decide) (by decide) (by kernel_rfl), hur_of (n := 9) (h := 0) (by decide) (by decide) (by kernel_rfl), hur_of (n := 10) (h := 0) (by decide) (by decide) (by kernel_rfl), hur_of (n := 11) (h := 12) (by decide) (by decide) (by kernel_rfl), hur_of (n := 12) (h := 16) (by decide) (by decide) (by kernel_rfl), hur_of (n := 13) (h := 0) (by decide) (by decide) (by kernel_rfl), hur_of (n := 14) (h := 0) (by decide) (by decide) (by kernel_rfl), hur_of (n := 15) (h := 24) (by decide) (by decide) (by kernel_rfl), hur_of (n := 16) (h := 18) (by decide) (by decide) (by kernel_rfl),
    place_known, works_true]
  rfl
end Go.Proofs.Ytifnooogklfifaa.Pure
