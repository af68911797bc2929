-- Plain laws of the row law01: NatKnown.
import Derived.Test.YtnjlpjdncejfcaaPk
import Derived.KernelRfl
namespace Go.Proofs.Ytnjlpjdncejfcaa.Pure
open Go Go.Proofs.Ytnjlpjdncejfcaa.Ev
set_option linter.unusedVariables false
set_option linter.unusedSimpArgs false

/-- The greatest power of 2 that may be. -/
def big : Int := 2 ^ 4095
theorem big_ok : big < K ∧ 1 ≤ big ∧ ¬ big + big < K ∧ ¬ big * 2 < K ∧ blen big = 4096 := by unfold big K; decide +kernel

theorem known_tail : ((nat_Nat_Text.f 8589934700 [1]).bind fun r20 =>
                              bif r20.toList == str7.toList then
                                (nat_Nat_Text.f 8589934700 []).bind fun r21 =>
                                bif r21.toList == str1.toList then
                                  (nat_Of.f 8589934700 99).bind fun r22 =>
                                  (nat_Root.f 8589934700 r22).bind fun r23 =>
                                  (nat_Nat_Text.f 8589934700 r23).bind fun r24 =>
                                  bif r24.toList == str8.toList then
                                    (nat_Of.f 8589934700 12).bind fun r25 =>
                                    (nat_Of.f 8589934700 18).bind fun r26 =>
                                    (nat_Gcd.f 8589934700 r25 r26).bind fun r27 =>
                                    (nat_Nat_Text.f 8589934700 r27).bind fun r28 =>
                                    bif r28.toList == str4.toList then
                                      (parquetlaw01_works.f 8589934700).bind fun r29 =>
                                      some r29
                                    else
                                    some false
                                  else
                                  some false
                                else
                                some false
                              else
                              some false) = some true := by kernel_rfl

theorem parse_empty : nat_Parse.f 8589934700 ByteArray.empty = some ([], 12) := by kernel_rfl
theorem parse_007 : nat_Parse.f 8589934700 str5 = some ([], 12) := by kernel_rfl
theorem parse_plus : nat_Parse.f 8589934700 str6 = some ([], 12) := by kernel_rfl
theorem of_one : nat_Of.f 8589934700 1 = some [1] := by kernel_rfl

theorem shl_nil (N : Nat) : nat_Shl.f N [] 4611686018427387904 = some ([], 0) := by
  unfold nat_Shl.f
  rw [decide_eq_false (show ¬ (4611686018427387904 : Int) < 0 by decide)]
  rfl

theorem NatKnown : ∃ N, parquetlaw01_NatKnown.f N = some true := by
  refine ⟨8589934700, ?_⟩
  have hN : 1000000001 < 8589934700 := by decide
  have t := known_tail
  have p1 := parse_empty
  have p2 := parse_007
  have p3 := parse_plus
  have o1 := of_one
  generalize 8589934700 = N at *
  have e1 : enc (4294967296 : Int) 1 = [1] := by
    have := of_model hN (n := 1) (by decide) (by decide)
    rw [o1] at this
    exact (Option.some.inj this).symm
  have r1 : Rg 1 := ⟨by decide, by have := K_big; omega⟩
  have r2 : Rg 2 := ⟨by decide, by have := K_big; omega⟩
  have r0 : Rg 0 := ⟨by decide, by have := K_big; omega⟩
  obtain ⟨b1, b2, b3, b4, b5⟩ := big_ok
  have rb : Rg big := ⟨by omega, b1⟩
  have rm : Rg (big - 1) := ⟨by omega, by omega⟩
  have s1 := shl_model hN r1 (n := 4095) (by decide) (by decide)
  have s2 := shl_model hN r1 (n := 4096) (by decide) (by decide)
  have s3 := shl_nil N
  have t1 : (4095 : Int).toNat = 4095 := by decide
  have t2 : (4096 : Int).toNat = 4096 := by decide
  have w1 : (1 : Int) * 2 ^ (4095 : Int).toNat = big := by rw [Int.one_mul, t1, big]
  have w2 : (1 : Int) * 2 ^ (4096 : Int).toNat = K := by rw [Int.one_mul, t2, K]
  rw [w1, if_neg (by decide), if_pos b1] at s1
  rw [w2, if_neg (by decide), if_neg (by omega)] at s2
  have a1 := add' hN rb rb
  have m1 := mul' hN rb r2
  have c1 := sub_enc hN rb.lo rb.hi r1.lo
  rw [if_neg (by omega)] at c1
  have hp := pow_model hN r0 (n := 0) (by decide) (by decide)
  have w3 : (0 : Int) ^ (0 : Int).toNat = 1 := Int.pow_zero 0
  rw [w3, if_pos r1.hi, enc_zero B2] at hp
  have oa : oe (big + big) = 3 := by unfold oe; rw [if_neg b3]
  have om : oe (big * 2) = 3 := by unfold oe; rw [if_neg b4]
  obtain ⟨x1, x2⟩ := enc_spec B2 rb.lo
  have hl := enc_len128 rb.lo rb.hi
  have hb := bits_model N x1 (by omega)
  rw [x2, b5] at hb
  have z0 : nat_Nat_Bits.f N [] = some 0 := rfl
  obtain ⟨txt, T1, T2⟩ : ∃ txt, nat_Nat_Text.f N (enc (4294967296 : Int) (big - 1)) = some txt ∧ nat_Parse.f N txt = some (enc (4294967296 : Int) (big - 1), 0) := ⟨_, text_model hN rm.lo rm.hi, parse_dec hN rm⟩
  have T3 := cmp' hN rm rm
  rw [cmp_self] at T3
  generalize enc (4294967296 : Int) (big - 1) = l13 at *
  unfold parquetlaw01_NatKnown.f
  rw [p1, p2, p3, of_model hN (n := 1) (by decide) (by decide), of_model hN (n := 2) (by decide) (by decide)]
  simp only [Option.bind_some]
  rw [s1, s2]
  simp only [Option.bind_some]
  rw [a1, s3, m1, c1]
  simp only [Option.bind_some]
  rw [T1]
  simp only [Option.bind_some]
  rw [T2, hp]
  simp only [Option.bind_some]
  rw [hb, oa, om, z0, T3, e1]
  simp only [beq_self_eq_true, cond_true, Option.bind_some]
  exact t

end Go.Proofs.Ytnjlpjdncejfcaa.Pure
