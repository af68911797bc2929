-- Plain laws of the row law01: Root, and NatReckons.
import Derived.Test.YtbnoablfajmaeaaGreatNp
import Derived.KernelRfl
namespace Go.Proofs.YtbnoablfajmaeaaGreat.NatL
open Go Go.Proofs.YtbnoablfajmaeaaGreat.Ev
set_option linter.unusedVariables false
set_option linter.unusedSimpArgs false

theorem rgcd_loop {N : Nat} (hN : 1000000001 < N) {R : Type} (K0 : List Int → Option R) : ∀ (k n : Nat) (u v : Int), Rg u → Rg v → v < 2 ^ k → 2 * k + 1 ≤ n → parquetref01_Gcd.l1 N n (enc (65536 : Int) u) (enc (65536 : Int) v) K0 = K0 (enc (65536 : Int) (gcdI u v)) := by
  have stop : ∀ (n : Nat) (u : Int), Rg u → parquetref01_Gcd.l1 N (n + 1) (enc (65536 : Int) u) (enc (65536 : Int) 0) K0 = K0 (enc (65536 : Int) (gcdI u 0)) := by
    intro n u hu
    rw [parquetref01_Gcd.l1, enc_zero H2, gcd_zero hu.1]
    rfl
  have len : ∀ (u : Int), Rg u → (enc (65536 : Int) u).length ≤ 256 := fun u hu => encH_len hu.lo (by rw [← K_H]; exact hu.hi)
  have one : ∀ (n : Nat) (u v : Int), Rg u → Rg v → v ≠ 0 → parquetref01_Gcd.l1 N (n + 1) (enc (65536 : Int) u) (enc (65536 : Int) v) K0 = parquetref01_Gcd.l1 N n (enc (65536 : Int) v) (enc (65536 : Int) (u % v)) K0 := by
    intro n u v hu hv hz
    rw [parquetref01_Gcd.l1]
    have hne : enc (65536 : Int) v ≠ [] := fun h => hz ((enc_nil H2 hv.1).mp h)
    have hlen : 0 < (enc (65536 : Int) v).length := List.length_pos_iff.mpr hne
    have c : decide (((enc (65536 : Int) v).length : Int) > 0) = true := decide_eq_true (by omega)
    have hu0 := len u hu
    have hv0 := len v hv
    have hvl := hv.lo
    rw [c, rdiv_enc hN hu.lo (by omega) (by omega) (by omega)]
    rfl
  have rem : ∀ (u v : Int), Rg u → Rg v → v ≠ 0 → Rg (u % v) ∧ u % v < v := by
    intro u v hu hv hz
    have hp : 0 < v := by have := hv.1; omega
    have h0 := Int.emod_nonneg u hz
    have h1 := Int.emod_lt_of_pos u hp
    exact ⟨⟨h0, by have := hv.2; omega⟩, h1⟩
  intro k
  induction k with
  | zero =>
    intro n u v hu hv hk hn
    obtain ⟨n', rfl⟩ : ∃ n', n = n' + 1 := ⟨n - 1, by omega⟩
    have hv0 := hv.1
    have : v = 0 := by simp at hk; omega
    subst this
    exact stop n' u hu
  | succ k ih =>
    intro n u v hu hv hk hn
    obtain ⟨n', rfl⟩ : ∃ n', n = n' + 1 + 1 := ⟨n - 2, by omega⟩
    have hu0 := hu.1
    have hv0 := hv.1
    by_cases hz : v = 0
    · subst hz; exact stop _ u hu
    · obtain ⟨r1, r2⟩ := rem u v hu hv hz
      have g1 := gcd_step hu0 (show 0 < v by omega)
      rw [one _ u v hu hv hz, ← g1]
      generalize u % v = r at *
      by_cases hr : r = 0
      · subst hr; exact stop _ v hv
      · have hr0 := r1.1
        obtain ⟨q1, q2⟩ := rem v r hv r1 hr
        have g2 := gcd_step hv0 (show 0 < r by omega)
        rw [one _ v r hv r1 hr, ← g2]
        have hh := half_step (show 0 < r by omega) r2
        have hp : (2 : Int) ^ (k + 1) = 2 * 2 ^ k := by rw [Int.pow_succ]; omega
        exact ih n' r (v % r) r1 q1 (by omega) (by omega)

theorem rgcd_model {N : Nat} (hN : 1000000001 < N) {u v : Int} (hu : Rg u) (hv : Rg v) : parquetref01_Gcd.f N (enc (65536 : Int) u) (enc (65536 : Int) v) = some (enc (65536 : Int) (gcdI u v)) := by
  unfold parquetref01_Gcd.f
  exact rgcd_loop hN _ 4096 N u v hu hv (by have := hv.2; unfold K at this; exact this) (by omega)


end Go.Proofs.YtbnoablfajmaeaaGreat.NatL
