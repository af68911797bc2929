-- Plain laws of the row law09: how many reduced forms a discriminant up to 2^16 can have; so a cycle is told whole.
import Derived.Test.YtlofhdoefjmabaaPg
import Derived.Test.YtlofhdoefjmabaaPh
namespace Go.Proofs.Ytlofhdoefjmabaa.Pure
open Go Go.Proofs.Ytlofhdoefjmabaa.Ev Go.Proofs.Ytlofhdoefjmabaa.Cnt
set_option linter.unusedVariables false
set_option linter.unusedSimpArgs false

theorem nd_len {α : Type} [DecidableEq α] : ∀ (l m : List α), l.Nodup → (∀ x ∈ l, x ∈ m) → l.length ≤ m.length
  | [], m, _, _ => Nat.zero_le _
  | x :: l, m, hn, hs => by
    obtain ⟨h1, h2⟩ := List.nodup_cons.mp hn
    have hx := hs x (by simp)
    have ih := nd_len l (m.erase x) h2 (fun y hy => (List.mem_erase_of_ne (fun (e : y = x) => h1 (by rw [← e]; exact hy))).mpr (hs y (by simp [hy])))
    rw [List.length_erase_of_mem hx] at ih
    have := List.length_pos_of_mem hx
    simp only [List.length_cons]
    omega

/-- The numbers below 2 a whose square is d modulo 4 a. -/
def rts (a r n : Nat) : List Nat := (List.range n).filter fun t => Nat.beq (t * t % (4 * a)) r
theorem rts_len (a r : Nat) : ∀ n, (rts a r n).length = cn a r n
  | 0 => rfl
  | n + 1 => by
    have ih := rts_len a r n
    unfold rts at ih ⊢
    rw [List.range_succ, List.filter_append, List.length_append, ih]
    simp only [cn]
    congr 1
    by_cases h : n * n % (4 * a) = r
    · rw [if_pos h]
      have : Nat.beq (n * n % (4 * a)) r = true := by rw [h]; exact Nat.beq_refl r
      simp [this]
    · rw [if_neg h]
      have : Nat.beq (n * n % (4 * a)) r = false := by
        cases hb : Nat.beq (n * n % (4 * a)) r
        · rfl
        · exact absurd (Nat.eq_of_beq_eq_true hb) h
      simp [this]
def bw (s : Int) (a t : Nat) : Int := s - (s - (t : Int)) % (2 * (a : Int))
/-- The forms of one number at an end. -/
def four (d s : Int) (a t : Nat) : List T3 :=
  [((a : Int), bw s a t, (bw s a t * bw s a t - d) / (4 * (a : Int))), (-(a : Int), bw s a t, -((bw s a t * bw s a t - d) / (4 * (a : Int)))),
   ((bw s a t * bw s a t - d) / (4 * (a : Int)), bw s a t, (a : Int)), (-((bw s a t * bw s a t - d) / (4 * (a : Int))), bw s a t, -(a : Int))]
def cand (d s : Int) : List T3 := tab.flatMap fun p => (rts p.1 ((d % (4 * (p.1 : Int))).toNat) (2 * p.1)).flatMap fun t => four d s p.1 t

theorem tab_le : ∀ p ∈ tab, 1 ≤ p.1 ∧ p.1 ≤ 128 := by
  intro p hp
  have h : p.1 ∈ tab.map (·.1) := List.mem_map_of_mem hp
  rw [tab_fst, List.mem_range'_1] at h
  omega
theorem flat4_len {α β : Type} (f : α → List β) (hf : ∀ x, (f x).length = 4) : ∀ l : List α, (l.flatMap f).length = 4 * l.length
  | [] => rfl
  | x :: l => by rw [List.flatMap_cons, List.length_append, hf, flat4_len f hf l, List.length_cons]; omega
theorem cand_len (d s : Int) : (cand d s).length ≤ 2672 := by
  have key : ∀ l : List (Nat × Nat), (∀ p ∈ l, p ∈ tab) → (l.flatMap fun p => (rts p.1 ((d % (4 * (p.1 : Int))).toNat) (2 * p.1)).flatMap fun t => four d s p.1 t).length ≤ 4 * (l.map (·.2)).sum := by
    intro l
    induction l with
    | nil => intro _; exact Nat.le_refl _
    | cons p l ih =>
      intro hl
      have hp := hl p (by simp)
      obtain ⟨h1, h2⟩ := tab_le p hp
      have h3 : ((d % (4 * (p.1 : Int))).toNat) < 4 * p.1 := by
        have := Int.emod_lt_of_pos d (show 0 < 4 * (p.1 : Int) by omega)
        have := Int.emod_nonneg d (show 4 * (p.1 : Int) ≠ 0 by omega)
        omega
      have h4 := cn_tab hp h2 h3
      have ih := ih (fun q hq => hl q (by simp [hq]))
      rw [List.flatMap_cons, List.length_append, flat4_len _ (fun t => rfl), rts_len, List.map_cons, List.sum_cons]
      omega
  have := key tab (fun _ h => h)
  rw [tab_sum] at this
  exact this

theorem bw_of {s b : Int} {a t : Nat} (ha : 1 ≤ a) (h1 : s - 2 * (a : Int) < b) (h2 : b ≤ s) (ht : (t : Int) = b % (2 * (a : Int))) : bw s a t = b := by
  unfold bw
  rw [ht]
  have e : (s - b % (2 * (a : Int))) % (2 * (a : Int)) = (s - b) % (2 * (a : Int)) := by
    rw [Int.sub_emod, Int.emod_emod_of_dvd _ (Int.dvd_refl _), ← Int.sub_emod]
  rw [e, Int.emod_eq_of_lt (by omega) (by omega)]
  omega
theorem sq_res {b d : Int} {a : Nat} {c : Int} (ha : 1 ≤ a) (h : b * b - 4 * (a : Int) * c = d) : ∃ t : Nat, t < 2 * a ∧ (t : Int) = b % (2 * (a : Int)) ∧ t * t % (4 * a) = (d % (4 * (a : Int))).toNat := by
  have p0 := Int.emod_nonneg b (show 2 * (a : Int) ≠ 0 by omega)
  have p1 := Int.emod_lt_of_pos b (show 0 < 2 * (a : Int) by omega)
  refine ⟨(b % (2 * (a : Int))).toNat, by omega, by omega, ?_⟩
  generalize hm : b % (2 * (a : Int)) = m at p0 p1
  have hb : b = 2 * (a : Int) * (b / (2 * (a : Int))) + m := by rw [← hm]; exact (Int.mul_ediv_add_emod b _).symm
  generalize b / (2 * (a : Int)) = q at hb
  have e : d = m * m + 4 * (a : Int) * ((a : Int) * q * q + q * m - c) := by subst hb; rw [← h]; grind
  have e2 : d % (4 * (a : Int)) = m * m % (4 * (a : Int)) := by rw [e, Int.add_mul_emod_self_left]
  rw [e2]
  obtain ⟨k, rfl⟩ := Int.eq_ofNat_of_zero_le p0
  simp only [Int.toNat_natCast]
  have : ((k : Int) * (k : Int) % (4 * (a : Int))) = ((k * k % (4 * a) : Nat) : Int) := by push_cast; rfl
  rw [this, Int.toNat_natCast]

/-- Every reduced form of a small discriminant is among them. -/
theorem cand_mem {d s : Int} (hd : Cross d s) (hs : d ≤ 65536) {y : T3} (h : OKf d s y) : y ∈ cand d s := by
  obtain ⟨a, b, c⟩ := y
  obtain ⟨hg, hr⟩ := h
  dsimp only at hg hr
  obtain ⟨o1, o2, o3⟩ := outer hd hg hr
  have hr2 := red_other hd hg hr
  have hdisc := hg.disc
  have b0 := sq_nonneg b
  have pa := ab_nonneg a
  have pc := ab_nonneg c
  obtain ⟨ha, hc⟩ := hg.ane hd
  have qa := ab_pos ha
  have qc := ab_pos hc
  have main : ∀ (α : Nat) (e f : Int), 1 ≤ α → α ≤ 128 → ab e = (α : Int) → Red s e b → b * b - 4 * e * f = d → (e, b, f) ∈ cand d s ∧ (f, b, e) ∈ cand d s := by
    intro α e f h1 h2 he hred hdf
    obtain ⟨r1, r2, r3, r4⟩ := hred
    rw [he] at r3 r4
    obtain ⟨p, hp, hp1⟩ : ∃ p ∈ tab, p.1 = α := by
      have : α ∈ tab.map (·.1) := by rw [tab_fst, List.mem_range'_1]; omega
      obtain ⟨p, hp, e⟩ := List.mem_map.mp this
      exact ⟨p, hp, e⟩
    subst hp1
    have hf : ∃ g : Int, b * b - 4 * (p.1 : Int) * g = d ∧ ((e = (p.1 : Int) ∧ f = g) ∨ (e = -(p.1 : Int) ∧ f = -g)) := by
      rcases ab_cases e with ⟨_, q⟩ | ⟨_, q⟩
      · exact ⟨f, by rw [← he, q]; exact hdf, .inl ⟨by omega, rfl⟩⟩
      · refine ⟨-f, ?_, .inr ⟨by omega, by omega⟩⟩
        rw [← he, q]; rw [← hdf]; grind
    obtain ⟨g, hg, hcase⟩ := hf
    obtain ⟨t, t1, t2, t3⟩ := sq_res h1 hg
    have hb := bw_of h1 (by omega) r2 t2
    have hq : (b * b - d) / (4 * (p.1 : Int)) = g := by
      have : b * b - d = 4 * (p.1 : Int) * g := by omega
      rw [this, Int.mul_ediv_cancel_left _ (by omega)]
    have htm : t ∈ rts p.1 ((d % (4 * (p.1 : Int))).toNat) (2 * p.1) := by
      unfold rts
      rw [List.mem_filter]
      exact ⟨List.mem_range.mpr t1, by rw [t3]; exact Nat.beq_refl _⟩
    have inn : ∀ x ∈ four d s p.1 t, x ∈ cand d s := fun x hx => List.mem_flatMap.mpr ⟨p, hp, List.mem_flatMap.mpr ⟨t, htm, hx⟩⟩
    have hfour : four d s p.1 t = [((p.1 : Int), b, g), (-(p.1 : Int), b, -g), (g, b, (p.1 : Int)), (-g, b, -(p.1 : Int))] := by unfold four; rw [hb, hq]
    rw [hfour] at inn
    rcases hcase with ⟨e1, e2⟩ | ⟨e1, e2⟩ <;> subst e1 <;> subst e2
    · exact ⟨inn _ (by simp), inn _ (by simp)⟩
    · exact ⟨inn _ (by simp), inn _ (by simp)⟩
  rcases Int.lt_or_le 128 (ab a) with h1 | h1
  · rcases Int.lt_or_le 128 (ab c) with h2 | h2
    · exfalso
      have := Int.mul_le_mul (show 129 ≤ ab a by omega) (show 129 ≤ ab c by omega) (by omega) (by omega)
      omega
    · exact (main (ab c).toNat c a (by omega) (by omega) (by omega) hr2 (by rw [← hdisc]; grind)).2
  · exact (main (ab a).toNat a c (by omega) (by omega) (by omega) hr hdisc).1

/-- A cycle of a small discriminant is short. -/
theorem round_small {d s : Int} (hd : Cross d s) (hs : d ≤ 65536) {x : T3} (h : OKf d s x) : ∃ m, m ≤ 2672 ∧ Round s x m := by
  have ex : ∃ k, 1 ≤ k ∧ k ≤ 2672 ∧ orb s x k = x := by
    apply Classical.byContradiction
    intro hno
    have hno : ∀ k, 1 ≤ k → k ≤ 2672 → orb s x k ≠ x := fun k h1 h2 e => hno ⟨k, h1, h2, e⟩
    have hnd : ((List.range 2673).map (orb s x)).Nodup := by
      rw [List.Nodup, List.pairwise_map]
      refine List.Pairwise.imp_of_mem ?_ List.nodup_range
      intro i j hi hj hne e
      rw [List.mem_range] at hi hj
      rcases Nat.lt_or_gt_of_ne hne with hlt | hlt
      · have hj' : j = (j - i) + i := by omega
        rw [hj', orb_add] at e
        exact hno (j - i) (by omega) (by omega) (orb_inj hd h (orb_ok hd h _) i e).symm
      · have hi' : i = (i - j) + j := by omega
        rw [hi', orb_add] at e
        exact hno (i - j) (by omega) (by omega) (orb_inj hd (orb_ok hd h _) h j e)
    have hsub : ∀ y ∈ (List.range 2673).map (orb s x), y ∈ cand d s := by
      intro y hy
      obtain ⟨i, _, rfl⟩ := List.mem_map.mp hy
      exact cand_mem hd hs (orb_ok hd h i)
    have := nd_len _ _ hnd hsub
    rw [List.length_map, List.length_range] at this
    have := cand_len d s
    omega
  have least : ∀ n k, k ≤ n → 1 ≤ k → orb s x k = x → ∃ m, m ≤ k ∧ Round s x m := by
    intro n
    induction n with
    | zero => intro k h1 h2; omega
    | succ n ih =>
      intro k h1 h2 h3
      by_cases hq : ∃ j, 1 ≤ j ∧ j < k ∧ orb s x j = x
      · obtain ⟨j, j1, j2, j3⟩ := hq
        obtain ⟨m, m1, m2⟩ := ih j (by omega) j1 j3
        exact ⟨m, by omega, m2⟩
      · exact ⟨k, Nat.le_refl _, ⟨h2, h3, fun j j1 j2 e => hq ⟨j, j1, j2, e⟩⟩⟩
  obtain ⟨k, k1, k2, k3⟩ := ex
  obtain ⟨m, m1, m2⟩ := least k k (Nat.le_refl _) k1 k3
  exact ⟨m, by omega, m2⟩

/-- A small discriminant's cycles are told whole. -/
theorem round_whole {N : Nat} (hN : 8589934600 < N) {d s : Int} (hd : Cross d s) (hs : d ≤ 65536) {x : T3} (h : OKf d s x) : ∃ m, m ≤ 2672 ∧ Round s x m ∧ cycle_round.f N x.1 x.2.1 x.2.2 = some (flat s x m, false) := by
  obtain ⟨m, m1, m2⟩ := round_small hd hs h
  rcases round_exact hN hd h with ⟨n, n1, n2, n3⟩ | ⟨n1, _⟩
  · have : n = m := by
      rcases Nat.lt_trichotomy n m with q | q | q
      · exact absurd n2.back (m2.least n n2.pos q)
      · exact q
      · exact absurd m2.back (n2.least m m2.pos q)
    subst this
    exact ⟨n, m1, m2, n3⟩
  · have := n1 m m2; omega

end Go.Proofs.Ytlofhdoefjmabaa.Pure
