-- Plain laws of the row law09: CyclePlaces.
import Derived.Test.YtlofhdoefjmabaaPo
namespace Go.Proofs.Ytlofhdoefjmabaa.Pure
open Go Go.Proofs.Ytlofhdoefjmabaa.Ev
set_option linter.unusedVariables false
set_option linter.unusedSimpArgs false

/-- A cycle's forms get their cycle's number. -/
theorem place_row (N : Nat) {d s : Int} (hd : Cross d s) {z : T3} {m : Nat} (hz : OKf d s z) (hr : Round s z m) (hm : m ≤ 4096) {i : Nat} (hi : i ≤ 100000) : ∀ (q k : Nat) (ks : List (List Int)) (vs : List Int), k ≤ m → m - k < q → ks.length = vs.length →
    (∀ j, k ≤ j → j < m → mgetG 0 (row3 (orb s z j)) ks vs = 0) →
    ∃ ks' vs', ks'.length = vs'.length ∧ (∀ j, k ≤ j → j < m → mgetG 0 (row3 (orb s z j)) ks' vs' = (i : Int) + 1) ∧ (∀ l, (∀ j, k ≤ j → j < m → l ≠ row3 (orb s z j)) → mgetG 0 l ks' vs' = mgetG 0 l ks vs) ∧
      ∀ {R : Type} (x39 x40 x44 x45 x46 x47 x48 x49 x50 x51 x52 x53 x54 x55 x56 x57 x58 : Int) (x61 : List (List Int)) (k2 : Int → Int → Int → Int → Int → Int → Int → Int → Int → Int → Int → Int → Int → Int → Int → Int → Int → List (List Int) → List Int → List (List Int) → Option R) (kr : Bool → Option R),
        parquetlaw09_CyclePlaces.l16 N q (i : Int) x39 x40 (flat s z m) (m : Int) (k : Int) x44 x45 x46 x47 x48 x49 x50 x51 x52 x53 x54 x55 x56 x57 x58 ks vs x61 k2 kr = k2 x39 x40 x44 x45 x46 x47 x48 x49 x50 x51 x52 x53 x54 x55 x56 x57 x58 ks' vs' x61 := by
  intro q
  induction q with
  | zero => intro k ks vs h1 h2 h3 h4; omega
  | succ q ih =>
    intro k ks vs h1 h2 h3 h4
    by_cases hk : k < m
    · have hl := flat_len s z m
      obtain ⟨g1, g2, g3⟩ := flat_get s z m k hk
      have c1 : decide ((k : Int) < (m : Int)) = true := decide_eq_true (by omega)
      have c2 : decide (0 ≤ (k : Int)) = true := decide_eq_true (by omega)
      have c3 : decide ((k : Int) < ((flat s z m).length / 3 : Int)) = true := decide_eq_true (by omega)
      have w : wi64 ((k : Int) + 1) = ((k + 1 : Nat) : Int) := by rw [wi64_id (by omega) (by omega)]; simp
      have wi : wi64 ((i : Int) + 1) = (i : Int) + 1 := wi64_id (by omega) (by omega)
      have hrow : ([(orb s z k).1, (orb s z k).2.1, (orb s z k).2.2] : List Int) = row3 (orb s z k) := rfl
      have hz0 := h4 k (Nat.le_refl _) hk
      obtain ⟨ks', vs', r1, r2, r3, r4⟩ := ih (k + 1) (mputK (row3 (orb s z k)) ks) (mput (row3 (orb s z k)) ((i : Int) + 1) ks vs) (by omega) (by omega) (mput_len _ _ _ _ h3) (fun j j1 j2 => by
        rw [mget_put _ _ _ _ _ _ h3, if_neg (fun e => hr.ne hd hz (show k < j by omega) j2 (row3_inj e).symm)]
        exact h4 j (by omega) j2)
      refine ⟨ks', vs', r1, fun j j1 j2 => ?_, fun l hl2 => ?_, ?_⟩
      · by_cases e : j = k
        · subst e
          rw [r3 _ (fun j' j1' j2' e => hr.ne hd hz (show j < j' by omega) j2' (row3_inj e)), mget_put _ _ _ _ _ _ h3, if_pos rfl]
        · exact r2 j (by omega) j2
      · rw [r3 l (fun j j1 j2 => hl2 j (by omega) j2), mget_put _ _ _ _ _ _ h3, if_neg (hl2 k (Nat.le_refl _) hk)]
      · intro R x39 x40 x44 x45 x46 x47 x48 x49 x50 x51 x52 x53 x54 x55 x56 x57 x58 x61 k2 kr
        rw [parquetlaw09_CyclePlaces.l16]
        simp only [c1, c2, c3, cond_true, Bool.and_self, Int.toNat_natCast, g1, g2, g3, hrow, mgetI_eq, hz0, bne_self_eq_false, cond_false, w, wi]
        exact r4 x39 x40 x44 x45 x46 x47 x48 x49 x50 x51 x52 x53 x54 x55 x56 x57 x58 x61 k2 kr
    · refine ⟨ks, vs, h3, fun j j1 j2 => by omega, fun l _ => rfl, ?_⟩
      intro R x39 x40 x44 x45 x46 x47 x48 x49 x50 x51 x52 x53 x54 x55 x56 x57 x58 x61 k2 kr
      rw [parquetlaw09_CyclePlaces.l16, decide_eq_false (by omega), cond_false]

structure Put (s : Int) (cs : List (T3 × Nat)) (i : Nat) (ks : List (List Int)) (vs : List Int) : Prop where
  len : ks.length = vs.length
  at_ : ∀ t (p : T3 × Nat), t < i → cs[t]? = some p → ∀ j, j < p.2 → mgetG 0 (row3 (orb s p.1 j)) ks vs = (t : Int) + 1
  no : ∀ l, (∀ t (p : T3 × Nat), t < i → cs[t]? = some p → ∀ j, j < p.2 → l ≠ row3 (orb s p.1 j)) → mgetG 0 l ks vs = 0

theorem Told.apart' {d s : Int} {cs : List (T3 × Nat)} (h : Told d s cs) {t u : Nat} {p r : T3 × Nat} (ht : cs[t]? = some p) (hu : cs[u]? = some r) (hne : t ≠ u) : ∀ i j, orb s p.1 i ≠ orb s r.1 j := by
  obtain ⟨t1, t2⟩ := List.getElem?_eq_some_iff.mp ht
  obtain ⟨u1, u2⟩ := List.getElem?_eq_some_iff.mp hu
  have hp := List.pairwise_iff_getElem.mp h.apart
  rcases Nat.lt_or_gt_of_ne hne with q | q
  · have := hp t u t1 u1 q
    rw [t2, u2] at this
    exact this
  · have := hp u t u1 t1 q
    rw [t2, u2] at this
    exact fun i j e => this j i e.symm

theorem places_go {N : Nat} (hN : 8589934600 < N) {d s : Int} (hd : Cross d s) (hs : d ≤ 65536) {cs : List (T3 × Nat)} (hT : Told d s cs) : ∀ (q i : Nat) (ks : List (List Int)) (vs : List Int), i ≤ cs.length → cs.length - i < q → Put s cs i ks vs →
    ∃ ks' vs', Put s cs cs.length ks' vs' ∧ ∀ {R : Type} (x20 x21 x22 x23 x24 x25 x26 x27 x28 x29 x30 x31 x32 x33 x34 : Int) (k0 : Int → Int → Int → Int → Int → Int → Int → Int → Int → Int → Int → Int → Int → Int → Int → List (List Int) → List Int → Option R) (kr : Bool → Option R),
      parquetlaw09_CyclePlaces.l13 N q (cs.length : Int) (i : Int) x20 x21 x22 x23 x24 x25 x26 x27 x28 x29 x30 x31 x32 x33 x34 ks vs (cyc s cs) k0 kr = k0 x20 x21 x22 x23 x24 x25 x26 x27 x28 x29 x30 x31 x32 x33 x34 ks' vs' := by
  have hsh := hT.short hd hs
  have hcl : (cyc s cs).length = cs.length := by unfold cyc; simp
  intro q
  induction q with
  | zero => intro i ks vs h1 h2 h3; omega
  | succ q ih =>
    intro i ks vs h1 h2 hP
    by_cases hi : i < cs.length
    · have c1 : decide ((i : Int) < (cs.length : Int)) = true := decide_eq_true (by omega)
      have c2 : decide (0 ≤ (i : Int)) = true := decide_eq_true (by omega)
      have c3 : decide ((i : Int) < ((cyc s cs).length : Int)) = true := decide_eq_true (by omega)
      have w : wi64 ((i : Int) + 1) = ((i + 1 : Nat) : Int) := by rw [wi64_id (by omega) (by omega)]; simp
      have hget : cs[i]? = some cs[i] := List.getElem?_eq_getElem hi
      generalize cs[i] = p at hget
      have hpm : p ∈ cs := List.mem_of_getElem? hget
      have hrow : (cyc s cs).getD i [] = flat s p.1 p.2 := by
        unfold cyc
        rw [List.getD_eq_getElem?_getD, List.getElem?_map, hget]; rfl
      have hle := hT.le p hpm
      have hrd := hT.rnd p hpm
      have hpf := hT.pf p hpm
      have hfl := flat_len s p.1 p.2
      have e0 : ((flat s p.1 p.2).length / 3 : Int) = (p.2 : Int) := by omega
      obtain ⟨ks', vs', r1, r2, r3, r4⟩ := place_row N hd hpf.1 hrd (show p.2 ≤ 4096 by omega) (i := i) (by omega) N 0 ks vs (by omega) (by omega) hP.len (fun j _ j2 => hP.no _ (fun t p' t1 t2 j' _ e => hT.apart' hget t2 (by omega) j j' (row3_inj e)))
      obtain ⟨ks2, vs2, q1, q2⟩ := ih (i + 1) ks' vs' (by omega) (by omega) ⟨r1, fun t p' t1 t2 j j1 => by
        by_cases e : t = i
        · subst e
          rw [hget] at t2; cases t2
          exact r2 j (Nat.zero_le _) j1
        · rw [r3 _ (fun j' _ _ e' => hT.apart' t2 hget e j j' (row3_inj e'))]
          exact hP.at_ t p' (by omega) t2 j j1, fun l hl => by
        rw [r3 l (fun j _ j2 => hl i p (by omega) hget j j2)]
        exact hP.no l (fun t p' t1 => hl t p' (by omega))⟩
      refine ⟨ks2, vs2, q1, ?_⟩
      intro R x20 x21 x22 x23 x24 x25 x26 x27 x28 x29 x30 x31 x32 x33 x34 k0 kr
      rw [parquetlaw09_CyclePlaces.l13]
      simp only [c1, c2, c3, cond_true, Bool.and_self, Int.toNat_natCast, hrow, e0]
      have r4' := r4 (R := R) (cs.length : Int) (i : Int) x20 x21 x22 x23 x24 x25 x26 x27 x28 x29 x30 x31 x32 x33 x34 (cyc s cs)
      rw [Int.natCast_zero] at r4'
      rw [r4', w]
      exact q2 x20 x21 x22 x23 x24 x25 x26 x27 x28 x29 x30 x31 x32 x33 x34 k0 kr
    · have : i = cs.length := by omega
      subst this
      refine ⟨ks, vs, hP, ?_⟩
      intro R x20 x21 x22 x23 x24 x25 x26 x27 x28 x29 x30 x31 x32 x33 x34 k0 kr
      rw [parquetlaw09_CyclePlaces.l13, decide_eq_false (by omega), cond_false]

/-- Forms of one cycle. -/
theorem same_cycle {d s : Int} {cs : List (T3 × Nat)} (hT : Told d s cs) {x y : T3} {t u i j : Nat} {p r : T3 × Nat} (ht : cs[t]? = some p) (hu : cs[u]? = some r) (hi : i < p.2) (hj : j < r.2) (hx : x = orb s p.1 i) (hy : y = orb s r.1 j) : (∃ k, orb s x k = y) ↔ t = u := by
  have hrp := hT.rnd p (List.mem_of_getElem? ht)
  constructor
  · rintro ⟨k, hk⟩
    apply Classical.byContradiction
    intro hne
    rw [hx, hy, ← orb_add] at hk
    exact hT.apart' ht hu hne _ _ hk
  · intro e
    subst e
    rw [ht] at hu; cases hu
    refine ⟨j + (p.2 * i - i), ?_⟩
    have hpos := hrp.pos
    have hle : i ≤ p.2 * i := by have := Nat.mul_le_mul_right i hpos; omega
    rw [hx, hy, ← orb_add, show i + (j + (p.2 * i - i)) = p.2 * i + j by omega, orb_mod hrp, Nat.mul_add_mod, ← orb_mod hrp]

theorem CyclePlaces (a1 a2 a3 b1 b2 b3 : Int) (w1 : (Lit.int .i64 a1).wf = true) (w2 : (Lit.int .i64 a2).wf = true) (w3 : (Lit.int .i64 a3).wf = true) (w4 : (Lit.int .i64 b1).wf = true) (w5 : (Lit.int .i64 b2).wf = true) (w6 : (Lit.int .i64 b3).wf = true) : ∃ N, parquetlaw09_CyclePlaces.f N a1 a2 a3 b1 b2 b3 = some true := by
  have hN : 8589934600 < 8589934700 := by decide
  refine ⟨8589934700, ?_⟩
  have hw := works_true
  generalize 8589934700 = N at hN hw
  unfold parquetlaw09_CyclePlaces.f
  rw [hw, Option.bind_some, Bool.not_true, cond_false]
  obtain ⟨e, k1, _, k3⟩ := check_model hN a1 a2 a3
  obtain ⟨e', k1', _, k3'⟩ := check_model hN b1 b2 b3
  by_cases he : e = 0
  · subst he
    obtain ⟨d, s, hd, hg⟩ := k3 rfl
    obtain ⟨x, p, q, r, t, x1, x2, x3⟩ := reduce_prim hN hd hg
    rw [x1, Option.bind_some]
    by_cases he' : e' = 0
    · subst he'
      obtain ⟨d', s', hd', hg'⟩ := k3' rfl
      obtain ⟨y, p', q', r', t', y1, y2, y3⟩ := reduce_prim hN hd' hg'
      rw [y1, Option.bind_some]
      have hdisc : parquetlaw09_disc.f N a1 a2 a3 = some d := by unfold parquetlaw09_disc.f; rw [disc_id hg]
      rw [hdisc, Option.bind_some]
      dsimp only
      rw [bne_self_eq_false, cond_false, cond_false]
      by_cases hs : d > 65536
      · rw [decide_eq_true hs, cond_true]
      · rw [decide_eq_false hs, cond_false, gcd_model hN hg.a0 hg.a1 hg.b0 hg.b1 hg.c0 hg.c1, Option.bind_some]
        by_cases hp : g3 a1 a2 a3 = 1
        · have hp1 : (((g3 a1 a2 a3 : Nat) : Int) != 1) = false := by rw [hp]; decide
          rw [hp1, cond_false, gcd_model hN hg'.a0 hg'.a1 hg'.b0 hg'.b1 hg'.c0 hg'.c1, Option.bind_some]
          by_cases hp' : g3 b1 b2 b3 = 1
          · have hp1' : (((g3 b1 b2 b3 : Nat) : Int) != 1) = false := by rw [hp']; decide
            have hs : d ≤ 65536 := by omega
            obtain ⟨cs, c1, c2, c3⟩ := all_told hN hd hg hs
            obtain ⟨pb, pc, o1, o2⟩ := principal_told hN hd hg hs
            have ored := (reduced_model hN hd o2.1.1).2.2
            have hred : decide (Red s 1 pb) = true := decide_eq_true o2.1.2
            obtain ⟨ks, vs, l1, l2⟩ := places_go hN hd hs c1 N 0 [] [] (by omega) (by have := c1.short hd hs; omega) ⟨rfl, fun t p ht => by omega, fun l _ => rfl⟩
            have hpx : PF d s x := ⟨x2, x3.mp ((g3_prim _ _ _).mp hp)⟩
            have hat : ∀ z : T3, PF d s z → ∃ (t i : Nat) (p : T3 × Nat), cs[t]? = some p ∧ i < p.2 ∧ z = orb s p.1 i ∧ mgetI (row3 z) ks vs = (t : Int) + 1 := by
              intro z hz
              obtain ⟨p, hpm, i, i1, i2⟩ := c2 z hz
              obtain ⟨t, ht1, ht2⟩ := List.getElem_of_mem hpm
              have ht : cs[t]? = some p := by rw [List.getElem?_eq_getElem ht1, ht2]
              exact ⟨t, i, p, ht, i1, i2, by rw [mgetI_eq, i2]; exact l1.at_ t p ht1 ht i i1⟩
            obtain ⟨tx, ix, px, X1, X2, X3, X4⟩ := hat x hpx
            obtain ⟨tp, ip, pp, P1, P2, P3, P4⟩ := hat _ o2
            have hprop := proper_told hN hd hd' hs x2 y2 x1 y1
            have zc : (cyc s cs).length = cs.length := by unfold cyc; simp
            rw [hp1', cond_false, Option.bind_some, c3, Option.bind_some, Option.bind_some, o1, Option.bind_some]
            dsimp only
            have l2' := l2 (R := Bool) a1 a2 a3 b1 b2 b3 x.1 x.2.1 x.2.2 y.1 y.2.1 y.2.2 1 pb pc
            rw [Int.natCast_zero] at l2'
            dsimp only at ored
            rw [bne_self_eq_false, cond_false, cond_false, ored, Option.bind_some, hred, Bool.not_true, cond_false, bne_self_eq_false, cond_false, zc, l2', hprop, Option.bind_some]
            have rx : ([x.1, x.2.1, x.2.2] : List Int) = row3 x := rfl
            have ry : ([y.1, y.2.1, y.2.2] : List Int) = row3 y := rfl
            have rp : ([1, pb, pc] : List Int) = row3 (1, pb, pc) := rfl
            rw [rx, ry, rp, X4, P4]
            have n1 : (((tx : Int) + 1) != 0) = true := by simp; omega
            have n2 : (((tp : Int) + 1) != 0) = true := by simp; omega
            dsimp only
            rw [n1, n2]
            simp only [beq_self_eq_true, cond_true]
            refine congrArg some ?_
            by_cases hdd : d = d'
            · subst hdd
              have hss : s = s' := hd.root.unique hd'.root
              subst hss
              have hpy : PF d s y := ⟨y2, y3.mp ((g3_prim _ _ _).mp hp')⟩
              obtain ⟨ty, iy, py, Y1, Y2, Y3, Y4⟩ := hat y hpy
              have key := same_cycle c1 X1 Y1 X2 Y2 X3 Y3
              rw [Y4]
              by_cases ht : tx = ty
              · have := key.mpr ht
                subst ht
                simp [this]
              · have h1 : ¬ ∃ k, orb s x k = y := fun h => ht (key.mp h)
                have h2 : ((tx : Int) + 1 == (ty : Int) + 1) = false := by simp; omega
                rw [h2]
                simp [h1]
            · have hy0 : mgetI (row3 y) ks vs = 0 := by
                rw [mgetI_eq]
                refine l1.no _ (fun t p t1 ht j j1 e => hdd ?_)
                have hy := row3_inj e
                have ho := orb_ok hd (c1.pf p (List.mem_of_getElem? ht)).1 j
                rw [← hy] at ho
                exact ho.1.disc.symm.trans y2.1.disc
              have h2 : ((tx : Int) + 1 == 0) = false := by simp; omega
              rw [hy0, h2]
              simp [hdd]
          · have hp1' : (((g3 b1 b2 b3 : Nat) : Int) != 1) = true := by simp; omega
            rw [hp1', cond_true]
        · have hp1 : (((g3 a1 a2 a3 : Nat) : Int) != 1) = true := by simp; omega
          rw [hp1, cond_true]
    · have h2 := (refused (N := N) k1' he').2.1
      have e1 : (e' != 0) = true := by simpa using he'
      rw [h2, Option.bind_some]
      dsimp only
      rw [bne_self_eq_false, cond_false, e1, cond_true]
  · have h2 := (refused (N := N) k1 he).2.1
    have e1 : (e != 0) = true := by simpa using he
    have hr : ∃ v, cycle_Reduce.f N b1 b2 b3 = some v := by
      by_cases he' : e' = 0
      · subst he'
        obtain ⟨d', s', hd', hg'⟩ := k3' rfl
        obtain ⟨y, p', q', r', t', y1, _⟩ := reduce_prim hN hd' hg'
        exact ⟨_, y1⟩
      · exact ⟨_, (refused (N := N) k1' he').2.1⟩
    obtain ⟨v, hv⟩ := hr
    rw [h2, Option.bind_some, hv, Option.bind_some]
    dsimp only
    rw [e1, cond_true]

end Go.Proofs.Ytlofhdoefjmabaa.Pure
