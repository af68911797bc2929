-- Plain laws of the row law11: reduced forms of a discriminant, listed in two ways (no program in sight).
import Derived.Test.YtifnooogklfifaaT6
namespace Go.Proofs.Ytifnooogklfifaa.Cls
open Go Go.Proofs.Ytifnooogklfifaa.Ev
set_option linter.unusedVariables false
set_option linter.unusedSimpArgs false

/-- A reduced form of the discriminant d. -/
structure Rd (d a b c : Int) : Prop where
  eq : b * b - 4 * a * c = d
  pos : 0 < a
  lo : -a < b
  hi : b ≤ a
  last : a < c ∨ (a = c ∧ 0 ≤ b)

def gcdI (a b : Int) : Int := (Int.gcd a b : Int)
/-- What divides a form's parts. -/
def cont (a b c : Int) : Int := gcdI (gcdI a b) c
theorem cont_neg (a b c : Int) : cont a (-b) c = cont a b c := by simp [cont, gcdI]

theorem sq_le {x y : Int} (h0 : 0 ≤ x) (h : x ≤ y) : x * x ≤ y * y := Int.mul_le_mul h h h0 (by omega)
theorem le_of_sq {x y : Int} (hy : 0 ≤ y) (h : x * x ≤ y * y) : x ≤ y := by
  rcases Int.lt_or_le y x with h1 | h1
  · have := sq_le (x := y + 1) (y := x) (by omega) (by omega)
    have e : (y + 1) * (y + 1) = y * y + 2 * y + 1 := by grind
    omega
  · exact h1
theorem sq_abs_le {b a : Int} (h1 : -a ≤ b) (h2 : b ≤ a) : b * b ≤ a * a := by
  rcases Int.le_total 0 b with h | h
  · exact sq_le h h2
  · have := sq_le (x := -b) (y := a) (by omega) (by omega)
    have e : -b * -b = b * b := by grind
    omega

theorem Rd.cge {d a b c : Int} (h : Rd d a b c) : a ≤ c := by have := h.last; omega
theorem Rd.three {d a b c : Int} (h : Rd d a b c) : 3 * a * a ≤ -d := by
  have h1 := h.eq
  have h2 := sq_abs_le (show -a ≤ b by have := h.lo; omega) h.hi
  have h3 := Int.mul_le_mul_of_nonneg_left h.cge (show 0 ≤ a by have := h.pos; omega)
  have e : 4 * a * c = 4 * (a * c) := by grind
  have e2 : 3 * a * a = 3 * (a * a) := by grind
  omega
theorem small_of_sq {x M : Int} (hM : 0 ≤ M) (h : x * x < (M + 1) * (M + 1)) : x ≤ M := by
  rcases Int.lt_or_le M x with h1 | h1
  · have := sq_le (x := M + 1) (y := x) (by omega) (by omega); omega
  · exact h1
theorem Rd.small {d a b c : Int} (h : Rd d a b c) (hd : -65536 ≤ d) : a ≤ 147 := by
  have := h.three
  have e2 : 3 * a * a = 3 * (a * a) := by grind
  exact small_of_sq (by omega) (by omega)
theorem Rd.parity {d a b c : Int} (h : Rd d a b c) : b % 2 = d % 2 := by
  have h1 := h.eq
  have e : 4 * a * c = 2 * (2 * a * c) := by grind
  rcases (show b % 2 = 0 ∨ b % 2 = 1 by omega) with hb | hb
  · have e2 : b = 2 * (b / 2) := by omega
    have e3 : b * b = 2 * (2 * ((b / 2) * (b / 2))) := by generalize b / 2 = q at *; subst e2; grind
    omega
  · have e2 : b = 2 * (b / 2) + 1 := by omega
    have e3 : b * b = 2 * (2 * ((b / 2) * (b / 2)) + 2 * (b / 2)) + 1 := by generalize b / 2 = q at *; subst e2; grind
    omega

/- Maps as lists -/
theorem eqL_iff : ∀ (a b : List Int), eqL a b = true ↔ a = b
  | [], [] => by simp [eqL]
  | [], _ :: _ => by simp [eqL]
  | _ :: _, [] => by simp [eqL]
  | a :: r, b :: s => by simp [eqL, eqL_iff r s]
theorem mpos_none : ∀ (l : List Int) (ks : List (List Int)) (i : Nat), mpos l ks i = none → l ∉ ks
  | _, [], _, _ => by simp
  | l, x :: r, i, h => by
    simp only [mpos] at h
    cases hq : eqL l x with
    | true => rw [hq] at h; cases h
    | false =>
      rw [hq] at h
      have := mpos_none l r (i + 1) h
      have hne : l ≠ x := fun e => by rw [(eqL_iff l x).2 e] at hq; cases hq
      simp [hne, this]
theorem mpos_some : ∀ (l : List Int) (ks : List (List Int)) (i j : Nat), mpos l ks i = some j → i ≤ j ∧ ks[j - i]? = some l
  | _, [], _, _, h => by cases h
  | l, x :: r, i, j, h => by
    simp only [mpos] at h
    cases hq : eqL l x with
    | true =>
      rw [hq] at h
      simp only [cond_true, Option.some.injEq] at h
      subst h
      simp [(eqL_iff l x).1 hq]
    | false =>
      rw [hq] at h
      obtain ⟨h1, h2⟩ := mpos_some l r (i + 1) j h
      refine ⟨by omega, ?_⟩
      have : j - i = (j - (i + 1)) + 1 := by omega
      rw [this]; simpa using h2

structure Inv (S : Int → Int → Int → Prop) (ks : List (List Int)) (vs : List Int) : Prop where
  len : vs.length = ks.length
  nd : ks.Nodup
  sound : ∀ r ∈ ks, ∃ a b c, r = [a, b, c] ∧ S a b c
  full : ∀ a b c, S a b c → [a, b, c] ∈ ks
  val : ∀ (j : Nat) a b c, ks[j]? = some [a, b, c] → vs[j]? = some (cont a b c)

theorem Inv.congr {S S' : Int → Int → Int → Prop} {ks : List (List Int)} {vs : List Int} (h : Inv S ks vs) (hs : ∀ a b c, S a b c ↔ S' a b c) : Inv S' ks vs :=
  ⟨h.len, h.nd, fun r hr => by obtain ⟨a, b, c, h1, h2⟩ := h.sound r hr; exact ⟨a, b, c, h1, (hs a b c).1 h2⟩, fun a b c h1 => h.full a b c ((hs a b c).2 h1), h.val⟩

theorem Inv.nil {S : Int → Int → Int → Prop} (hs : ∀ a b c, ¬ S a b c) : Inv S [] [] :=
  ⟨rfl, .nil, fun r hr => by simp at hr, fun a b c h => absurd h (hs a b c), fun j a b c h => by simp at h⟩

theorem Inv.put {S : Int → Int → Int → Prop} {ks : List (List Int)} {vs : List Int} (h : Inv S ks vs) (a b c : Int) : Inv (fun x y z => S x y z ∨ (x = a ∧ y = b ∧ z = c)) (mputK [a, b, c] ks) (mput [a, b, c] (cont a b c) ks vs) := by
  unfold mputK mhas mput
  cases hm : mpos [a, b, c] ks 0 with
  | none =>
    have hn := mpos_none _ _ _ hm
    simp only [Option.isSome_none, cond_false]
    refine ⟨by simp [h.len], ?_, fun r hr => ?_, fun x y z hs => ?_, fun j x y z hj => ?_⟩
    · exact List.nodup_append.2 ⟨h.nd, by simp, fun x hx y hy => by
        simp only [List.mem_singleton] at hy
        subst hy; rintro rfl; exact hn hx⟩
    · simp only [List.mem_append, List.mem_singleton] at hr
      rcases hr with hr | hr
      · obtain ⟨x, y, z, h1, h2⟩ := h.sound r hr; exact ⟨x, y, z, h1, .inl h2⟩
      · exact ⟨a, b, c, hr, .inr ⟨rfl, rfl, rfl⟩⟩
    · simp only [List.mem_append, List.mem_singleton]
      rcases hs with hs | ⟨rfl, rfl, rfl⟩
      · exact .inl (h.full x y z hs)
      · exact .inr rfl
    · rw [List.getElem?_append] at hj ⊢
      rw [h.len]
      split at hj
      · rename_i hlt
        rw [if_pos hlt]
        exact h.val j x y z hj
      · rename_i hlt
        rw [if_neg hlt]
        have h0 : j - ks.length = 0 := by
          rcases Nat.eq_zero_or_pos (j - ks.length) with h0 | h0
          · exact h0
          · rw [List.getElem?_eq_none (by simp; omega)] at hj; cases hj
        rw [h0] at hj ⊢
        simp at hj ⊢
        obtain ⟨rfl, rfl, rfl⟩ := hj
        rfl
  | some j0 =>
    obtain ⟨_, hj0⟩ := mpos_some _ _ _ _ hm
    simp only [Nat.sub_zero] at hj0
    simp only [Option.isSome_some, cond_true]
    have hv := h.val j0 a b c hj0
    have hset : vs.set j0 (cont a b c) = vs := by
      obtain ⟨hlt, hv⟩ := List.getElem?_eq_some_iff.mp hv
      rw [← hv, List.set_getElem_self]
    rw [hset]
    have hmem : [a, b, c] ∈ ks := List.mem_of_getElem? hj0
    refine ⟨h.len, h.nd, fun r hr => ?_, fun x y z hs => ?_, h.val⟩
    · obtain ⟨x, y, z, h1, h2⟩ := h.sound r hr; exact ⟨x, y, z, h1, .inl h2⟩
    · rcases hs with hs | ⟨rfl, rfl, rfl⟩
      · exact h.full x y z hs
      · exact hmem

theorem Inv.get {S : Int → Int → Int → Prop} {ks : List (List Int)} {vs : List Int} (h : Inv S ks vs) {a b c : Int} (hs : S a b c) : mgetI [a, b, c] ks vs = cont a b c := by
  unfold mgetI
  cases hm : mpos [a, b, c] ks 0 with
  | none => exact absurd (h.full a b c hs) (mpos_none _ _ _ hm)
  | some j =>
    obtain ⟨_, hj⟩ := mpos_some _ _ _ _ hm
    simp only [Nat.sub_zero] at hj
    have := h.val j a b c hj
    simp [List.getD_eq_getElem?_getD, this]

/- Rising lists -/
def lt3 (x y : R3) : Prop := x.1 < y.1 ∨ x.1 = y.1 ∧ (x.2.1 < y.2.1 ∨ x.2.1 = y.2.1 ∧ x.2.2 < y.2.2)
theorem lt3_le {x y : R3} (h : lt3 x y) : le3 x y = true := by
  rw [le3_iff]; unfold lt3 at h; omega
theorem lt3_ne {x y : R3} (h : lt3 x y) : x ≠ y := by
  rintro rfl; unfold lt3 at h; omega
structure Ris (S : Int → Int → Int → Prop) (R : List R3) : Prop where
  up : R.Pairwise lt3
  mem : ∀ x, x ∈ R ↔ S x.1 x.2.1 x.2.2
theorem Ris.congr {S S' : Int → Int → Int → Prop} {R : List R3} (h : Ris S R) (hs : ∀ a b c, S a b c ↔ S' a b c) : Ris S' R :=
  ⟨h.up, fun x => by rw [h.mem, hs]⟩
theorem Ris.nodup {S : Int → Int → Int → Prop} {R : List R3} (h : Ris S R) : R.Nodup := h.up.imp (fun hx => lt3_ne hx)
theorem Ris.sorted {S : Int → Int → Int → Prop} {R : List R3} (h : Ris S R) : R.Pairwise (fun a b => le3 a b = true) := h.up.imp (fun hx => lt3_le hx)
theorem Ris.add {S : Int → Int → Int → Prop} {R : List R3} (h : Ris S R) {a b c : Int} (hl : ∀ x y z, S x y z → lt3 (x, y, z) (a, b, c)) : Ris (fun x y z => S x y z ∨ (x = a ∧ y = b ∧ z = c)) (R ++ [(a, b, c)]) := by
  refine ⟨List.pairwise_append.mpr ⟨h.up, by simp, fun x hx y hy => ?_⟩, fun x => ?_⟩
  · simp only [List.mem_singleton] at hy
    subst hy
    exact hl _ _ _ ((h.mem x).1 hx)
  · simp only [List.mem_append, List.mem_singleton]
    rw [h.mem]
    constructor
    · rintro (h1 | rfl)
      · exact .inl h1
      · exact .inr ⟨rfl, rfl, rfl⟩
    · rintro (h1 | ⟨h1, h2, h3⟩)
      · exact .inl h1
      · exact .inr (Prod.ext h1 (Prod.ext h2 h3))

/-- A map's keys as rows. -/
def row (r : List Int) : R3 := (r.getD 0 0, r.getD 1 0, r.getD 2 0)
theorem Inv.perm {S : Int → Int → Int → Prop} {ks : List (List Int)} {vs : List Int} {R : List R3} (h : Inv S ks vs) (k : Ris S R) : (ks.map row).Perm R := by
  refine (List.perm_ext_iff_of_nodup ?_ k.nodup).mpr (fun x => ?_)
  · rw [List.Nodup, List.pairwise_map]
    refine h.nd.imp_of_mem (fun {r s} hr hs hne e => hne ?_)
    obtain ⟨a, b, c, rfl, _⟩ := h.sound r hr
    obtain ⟨a', b', c', rfl, _⟩ := h.sound s hs
    simp only [row, List.getD_cons_zero, List.getD_cons_succ, Prod.mk.injEq] at e
    obtain ⟨rfl, rfl, rfl⟩ := e
    rfl
  · rw [k.mem, List.mem_map]
    constructor
    · rintro ⟨r, hr, rfl⟩
      obtain ⟨a, b, c, rfl, hs⟩ := h.sound r hr
      exact hs
    · intro hs
      exact ⟨_, h.full _ _ _ hs, rfl⟩

end Go.Proofs.Ytifnooogklfifaa.Cls
