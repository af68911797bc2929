/-
  The evaluator's operations, eleventh part: copies, conversions; all operations together. (A text of ours; no condition.)
-/
import Derived.Test.YtnjlpjdncejfcaaEvOps11
import Derived.Laws.BytesArg
import Derived.Lib.ConvBytes
import Derived.Laws.IdiomStrings
namespace Go.Proofs.Ytnjlpjdncejfcaa.Ev
set_option linter.unusedVariables false
set_option linter.unusedSimpArgs false

section
variable {P : Program} {F : Nat → Prop} {ρ : Rho} {h : Nat → Blk} {w : World} {nid : Nat} {ty : Nat → Option TI} {ev : Operand → V} {ae : Operand → Value} {out : Out} {M : Nat → Prop} {ts : Array TypeId} {e : Nat} {te : TI}

theorem toList_all {k : IntKind} (l : List Int) : ∀ v ∈ l.map (Value.int k), v.oneCell' = true := by
  intro v hv
  obtain ⟨n, _, rfl⟩ := List.mem_map.mp hv
  rfl

theorem setH_self {id : Nat} {x : Blk} (he : h id = x) : setH h id x = h := by
  funext j
  unfold setH
  split
  · rename_i e; rw [e, he]
  · rfl

theorem copy_ok (hty : TyOK P ty) (hh : HeapRel F ρ h w) {t : Nat} (hts0 : ts[0]? = some t) (hu : P.underlying t = some (.slice e)) (hte : ty e = some te) (t' : TypeId) {k : IntKind} (hk : homo te = some k) {src : List Int} {tc : List Nat} {x : V} {vx vd : Value} {id : Nat} {l : List Int}
    (hs : srcInts h k te.size x = some (src, tc)) (hx : Rel ρ (av F (liveM ρ h)) w x vx) (hd : Rel ρ (av F (liveM ρ h)) w (.sw id te.size) vd) (hid : h id = .ints k l) {tc' : List Nat} :
    OpOK F ρ h w nid { val := .c (.int .i64 ((min (cnt te.size src.length) (cnt te.size l.length) : Nat) : Int)), wr := [(id, .ints k (splice l 0 (src.take (mulw te.size (min (cnt te.size src.length) (cnt te.size l.length))))))], touch := tc' }
      ((do pure (.value (← Builtin.copy_ ts t' #[vd, vx])) : Sem Next).run P w) := by
  have h0 := hty _ _ hte
  have hpos : 0 < te.size := by
    rw [← h0.zlen]
    unfold homo at hk
    split at hk
    · rename_i hr; rw [hr]; simp
    · cases hk
  obtain ⟨m, m1, m2, m3⟩ := srcInts_ok (P := P) hh hpos hx hs
  have hcm : cnt te.size src.length = m := by rw [cnt_eq, m2, div_of_mul hpos]
  obtain ⟨_, ⟨b, n, C, cap, c, h1, h2, h3, h4, h5, ho, hsz, hold⟩ | ⟨h1, h2, hk2⟩⟩ := sw_cells hh hd (by rw [hid]; trivial)
  · rw [hid] at hold
    obtain ⟨a1, a2, a3⟩ := hold
    have hns : n / te.size * te.size = n := Nat.div_mul_cancel (Nat.dvd_of_mod_eq_zero h2)
    have hcn : cnt te.size l.length = n / te.size := by rw [cnt_eq, a1]
    rw [hcm, hcn, mulw_eq]
    generalize hq : min m (n / te.size) = q
    have hqm : q ≤ m := by omega
    have hqn : q * te.size ≤ n := by rw [← hns]; exact Nat.mul_le_mul_right _ (by omega)
    have hqs : q * te.size ≤ src.length := by rw [m2]; exact Nat.mul_le_mul_right _ hqm
    have hlen : ((src.take (q * te.size)).map (Value.int k)).length = q * te.size := by simp; omega
    obtain ⟨w', c', r1, r2, r3, r4, r5, r6⟩ := run_storeCells (P := P) (b := b) ((src.take (q * te.size)).map (Value.int k)) w 0 0 C c ho (by omega) (toList_all _)
    subst hsz
    rw [← r5] at r4 h1
    have hold' : Holds ρ (av F (liveM ρ h)) w n c' (.ints k (splice l 0 (src.take (q * te.size)))) := by
      have hsl : (splice l 0 (src.take (q * te.size))).length = n := by simp [splice]; omega
      refine ⟨hsl, by omega, fun i hi => ?_⟩
      rw [hsl] at hi
      rw [r6 i, hlen]
      simp only [splice, List.take_zero, List.nil_append, Nat.zero_add, Nat.sub_zero]
      have hlt : (src.take (q * te.size)).length = q * te.size := by simp; omega
      by_cases hiq : i < q * te.size
      · rw [if_pos ⟨by omega, by omega⟩]
        simp only [List.getElem?_map, List.getD_eq_getElem?_getD]
        rw [List.getElem?_append_left (by omega), List.getElem?_eq_getElem (by omega)]
        rfl
      · rw [if_neg (by omega), a3 i (by omega), hlt]
        simp only [List.getD_eq_getElem?_getD]
        rw [List.getElem?_append_right (by omega), hlt, List.getElem?_drop]
        congr 4
        omega
    obtain ⟨q1, q2⟩ := HeapRel.write hh (by rw [hid]; trivial) h1 r2 r3 r4 hold'
    refine ⟨_, w', ρ, .inl ?_, Sub.refl _, fun _ _ => rfl, q1, Rel.of_c _, q2⟩
    subst h5
    have hnm : Nat.min m (n / te.size) = q := hq
    have hc := m3 q hqm
    simp only [Builtin.copy_, hts0, List.getElem?_toArray, List.getElem?_cons_zero, List.getElem?_cons_succ, Sem.run_bind, run_underlying hu, Result.andThen_ok, m1, hnm, h0.sizeOf, hc, Sem.run_pure]
    simp only [r1, Result.andThen_ok, goInt]
  · rw [hid] at hk2
    have hl : l = [] := by rcases hk2 with ⟨k2, hk2⟩ | hk2 <;> cases hk2; rfl
    subst hl
    subst h2
    have hq : min (cnt te.size src.length) (cnt te.size ([] : List Int).length) = 0 := by simp [cnt_eq]
    rw [hq]
    have hsp : splice [] 0 (src.take (mulw te.size 0)) = [] := by simp [splice, mulw_eq]
    rw [hsp]
    have hc := m3 0 (by omega)
    refine ⟨_, w, ρ, .inl ?_, Sub.refl _, fun _ _ => rfl, ?_, Rel.of_c _, ?_⟩
    · have hnm : Nat.min m 0 = 0 := Nat.min_zero m
      simp only [Builtin.copy_, hts0, List.getElem?_toArray, List.getElem?_cons_zero, List.getElem?_cons_succ, Sem.run_bind, run_underlying hu, Result.andThen_ok, m1, hnm, h0.sizeOf, hc, Sem.run_pure]
      rfl
    · show HeapRel F ρ (setH h id (.ints k [])) w
      rw [setH_self hid]; exact hh
    · show Ext (liveM ρ h) w (liveM ρ (setH h id (.ints k []))) w
      rw [setH_self hid]; exact Ext.refl _ _

theorem conv_ok (hty : TyOK P ty) (hh : HeapRel F ρ h w) {s d : Nat} {x : V} {vx : Value} {out : Out} (hx : Rel ρ (av F (liveM ρ h)) w x vx) (hb : convV ty nid s d x h = some (true, out)) (hn : out.new.length = 1 → ρ nid = none) :
    OpOK F ρ h w nid out ((do pure (.value (← convert s d vx)) : Sem Next).run P w) := by
  unfold convV at hb
  split at hb
  · rename_i ts td hs hd
    obtain ⟨us, hus⟩ := (hty _ _ hs).und
    have hud := (hty _ _ hd).tk
    split at hb
    · rename_i k ki n htk
      rw [htk] at hud
      simp only [tkOK] at hud
      have := hx.int; subst this
      have := pureV_out hb; subst this
      exact OpOK.pure hh (v := .int k (k.wrap n)) (by simp [convert, run_underlying hus, run_underlying hud, Conv.intToInt]) (Rel.of_c _)
    · rename_i b htk
      rw [htk] at hud
      simp only [tkOK] at hud
      have := hx.c; subst this
      have := pureV_out hb; subst this
      exact OpOK.pure hh (v := .string b) (by cases us <;> simp [convert, run_underlying hus, run_underlying hud]) (Rel.of_c _)
    · rename_i htk
      rw [htk] at hud
      simp only [tkOK] at hud
      split at hb
      · rename_i e hse
        have hks := (hty _ _ hs).tk
        rw [hse] at hks
        simp only [tkOK] at hks
        split at hb
        · rename_i s0 b0 z0 hte
          have hke := (hty _ _ hte).tk
          simp only [tkOK] at hke
          have := hx.c; subst this
          have := pureV_out hb; subst this
          exact OpOK.pure hh (v := .string ByteArray.empty) (by simp [run_convert_bytes_nil w s e hks hke 0 0 d hud]) (Rel.of_c _)
        · cases hb
      · cases hb
    · rename_i e b htk
      rw [htk] at hud
      simp only [tkOK] at hud
      split at hb
      · rename_i s0 b0 z0 hte
        have hke := (hty _ _ hte).tk
        simp only [tkOK] at hke
        have := hx.c; subst this
        simp only [Option.some.injEq, Prod.mk.injEq, true_and] at hb
        subst hb
        have hcap : b.size ≤ grownCap w b.size 0 e := cut_ge _ _ _ _
        have hus' : P.underlying s = some us := hus
        have hrun : (convert s d (.string b)).run P w = .ok (.slice (some ⟨w.heap.size, 0, none⟩) b.size (grownCap w b.size 0 e)) (Lib.bytesWorld w e b) := Lib.run_convert_string_bytes w s d e b hus hud hke
        have hnew := Lib.bytesWorld_at_new w e b
        have hrow : Lib.bytesCells w e b = bytesRow b (grownCap w b.size 0 e) := rfl
        have hsz : (Lib.bytesCells w e b).size = grownCap w b.size 0 e := by
          have h1 : b.data.size = b.size := rfl
          simp [Lib.bytesCells, h1]; omega
        have hheap : (Lib.bytesWorld w e b).heap = w.heap.push (.cells (Lib.bytesCells w e b) e ((Lib.bytesCells w e b).size, (Lib.bytesCells w e b).size + 1)) := by
          apply Array.ext
          · rw [Lib.bytesWorld_size]; simp
          · intro i h0' h2
            have h1 := h0'
            rw [Lib.bytesWorld_size] at h1
            have e1 : (Lib.bytesWorld w e b).heap[i]? = (w.heap.push (.cells (Lib.bytesCells w e b) e ((Lib.bytesCells w e b).size, (Lib.bytesCells w e b).size + 1)))[i]? := by
              by_cases hi : i = w.heap.size
              · subst hi; rw [hnew]; simp
              · rw [Lib.bytesWorld_at_old w e b i (by omega), Array.getElem?_push, if_neg hi]
            rw [Array.getElem?_eq_getElem h0', Array.getElem?_eq_getElem h2] at e1
            exact Option.some.inj e1
        have hb1 : (intsOfBytes b).length = b.size := by simp [intsOfBytes]
        refine OpOK.made (c := Lib.bytesCells w e b) (n := b.size) hh (hn rfl) (fun i hi => by dsimp only; omega) ?_ hheap (v := .slice (some ⟨w.heap.size, 0, none⟩) b.size (grownCap w b.size 0 e)) (by simp [hrun]) ?_
        · refine ⟨hb1, by omega, fun i hi => ?_⟩
          rw [hb1] at hi
          have h1 : b.data.size = b.size := rfl
          simp only [Lib.bytesCells]
          rw [Array.getElem?_append_left (by simp [h1, hi])]
          simp [intsOfBytes, List.getD_eq_getElem?_getD, h1, hi]
        · intro ρ' M' w'' hp
          simp only [Rel]
          exact ⟨by omega, .inl ⟨_, _, _, grownCap w b.size 0 e, hp, Nat.mod_one _, by rw [Nat.div_one]; exact hcap, by rw [hsz]; omega, by rw [Nat.div_one]⟩⟩
      · cases hb
    · rename_i x htk hn1 hn2
      rw [htk] at hud
      simp only [tkOK] at hud
      split at hb
      · rename_i e hse
        have hks := (hty _ _ hs).tk
        rw [hse] at hks
        simp only [tkOK] at hks
        split at hb
        · rename_i s0 b0 z0 w1 l t1 hte hrow
          have hke := (hty _ _ hte).tk
          simp only [tkOK] at hke
          obtain ⟨hw, hb2⟩ := cond_some hb
          have hw2 := beq_eq hw
          simp only [Option.some.injEq, Prod.mk.injEq, true_and] at hb2
          subst hb2
          clear hb hw
          subst hw2
          obtain ⟨_, a, len, cap, rfl, g1, g2, g3⟩ := rowOf_ok hh hx hrow
          have hrun : (convert s d (.slice a len cap)).run P w = .ok (.string (bytesOfInts l)) w := by
            rcases g3 with g3 | ⟨b, o, g3, g4⟩
            · subst g3
              have hl0 : len = 0 := by simp at g1; omega
              subst hl0
              rw [run_convert_bytes_string w s d e a 0 cap hks hke hud]
              cases a with
              | none => simp [Conv.bytesToString, bytesOfInts]; rfl
              | some a => rw [run_bytesToString w a 0 cap [] (by simp [loadCells, loadCellsFrom])]; simp [bytesOfInts]; rfl
            · subst g3
              exact run_convert_bytes_arg w s e hks hke b o len cap l (by omega) (fun i hi => g4 i (by omega)) d hud
          exact OpOK.pure hh (v := .string (bytesOfInts l)) (by simp [hrun]) (Rel.of_c _)
        · cases hb
      · cases hb
    · cases hb
  · cases hb

end
end Go.Proofs.Ytnjlpjdncejfcaa.Ev
