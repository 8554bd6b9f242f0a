/- Of and At, of place and of the reference. -/
import Derived.Test.YtklnpdnfjponpaaDoorPPlaceB
namespace Go.Proofs.YtklnpdnfjponpaaDoorV
set_option linter.unusedVariables false
set_option linter.unusedSimpArgs false

theorem idx_of (N : Nat) (s : ByteArray) {i : Nat} (h : i ≤ s.size) : strings_IndexByte N (s.extract i s.size) 10 = some (if en (bs s) i < s.size then (en (bs s) i : Int) - i else -1) := by
  have hb : (s.extract i s.size).data.toList = (bs s).drop i := by
    have := bs_extract s i s.size
    rw [List.take_of_length_le (by rw [List.length_drop, ← bs_size]; omega)] at this
    exact this
  have hl : ((bs s).drop i).length = s.size - i := by rw [List.length_drop, ← bs_size]
  have hle : ((bs s).drop i).findIdx (· == 10) ≤ ((bs s).drop i).length := List.findIdx_le_length
  unfold strings_IndexByte
  rw [hb, show (10 : Int).toNat.toUInt8 = 10 from rfl, idx_is]
  unfold en
  by_cases hf : ((bs s).drop i).findIdx (· == 10) < ((bs s).drop i).length
  · rw [if_pos hf, if_pos (by omega)]
    congr 1
    omega
  · rw [if_neg hf, if_neg (by omega)]

theorem begins_is (N : Nat) (s : ByteArray) (line : Int) (hs : s.size ≤ 100000) (hN : s.size + 1 < N) :
    place_begins N s line = some (if 1 ≤ line ∧ line ≤ cn (bs s) s.size + 1 then ((bg (bs s) (line.toNat - 1) : Int), true) else (0, false)) := by
  have hz := bs_size s
  have hT := cn_le (L := bs s) s.size
  by_cases h1 : 1 ≤ line
  · -- the rounds that find a line's end
    have hstep : ∀ i : Nat, i < cn (bs s) s.size → (i : Int) + 1 < line → (place_begins_l3_T N s line (bg (bs s) i) ((i : Int) + 1)).run some = some (.inl ((bg (bs s) (i + 1) : Int), ((i + 1 : Nat) : Int) + 1)) := by
      intro i hi hl
      obtain ⟨g1, g2, g3, g4⟩ := bg_spec (L := bs s) i (by rw [← hz]; omega)
      have g5 := g4 (by rw [← hz]; omega)
      rw [← hz] at g1 g5
      have e1 := (en_spec (L := bs s) (a := bg (bs s) i) (by rw [← hz]; exact g1)).1
      have h3 : (0 : Int) ≤ bg (bs s) i ∧ (bg (bs s) i : Int) ≤ s.size := by omega
      have h4 : ¬ ((en (bs s) (bg (bs s) i) : Int) - bg (bs s) i < 0) := by omega
      simp only [place_begins_l3_T, run_br, run_call, run_ret, ltI_eq, leI_eq, Bool.and_eq_true, decide_eq_true_eq, if_pos hl, if_pos h3, toNat_nat, idx_of N s g1, if_pos g5, Option.bind_some, if_neg h4]
      rw [i64_in (x := (en (bs s) (bg (bs s) i) : Int) - bg (bs s) i + 1) (by omega), i64_in (x := (bg (bs s) i : Int) + ((en (bs s) (bg (bs s) i) : Int) - bg (bs s) i + 1)) (by omega), i64_in (x := (i : Int) + 1 + 1) (by omega)]
      rw [bg]
      simp only [Option.some.injEq, Sum.inl.injEq, Prod.mk.injEq]
      omega
    by_cases h2 : line ≤ cn (bs s) s.size + 1
    · obtain ⟨j, hj⟩ : ∃ j : Nat, line = (j : Int) + 1 := ⟨(line - 1).toNat, by omega⟩
      subst hj
      have hl3 : place_begins_l3 N s ((j : Int) + 1) (0, 1) = some (.inr (bg (bs s) j : Int)) := by
        unfold place_begins_l3
        refine loop_up (s := fun v => place_begins_l3_T N s ((j : Int) + 1) v.1 v.2) (fun i : Nat => ((bg (bs s) i : Int), (i : Int) + 1)) j _ (k := 0) (m := N) (by omega) (by omega) (fun i _ hi => hstep i (by omega) (by omega)) ?_
        have : ¬ ((j : Int) + 1 < j + 1) := by omega
        simp only [place_begins_l3_T, run_br, run_ret, ltI_eq, decide_eq_true_eq, if_neg this]
      have h5 : (0 : Int) < (j : Int) + 1 := by omega
      rw [if_pos ⟨h1, h2⟩]
      simp only [place_begins, place_begins_T, run_call, hl3, Option.bind_some, run_inr, run_ret, ltI_eq, decide_eq_true h5]
      have : ((j : Int) + 1).toNat - 1 = j := by omega
      rw [this]
    · have hl3 : place_begins_l3 N s line (0, 1) = some (.inl ()) := by
        unfold place_begins_l3
        refine loop_up (s := fun v => place_begins_l3_T N s line v.1 v.2) (fun i : Nat => ((bg (bs s) i : Int), (i : Int) + 1)) (cn (bs s) s.size) _ (k := 0) (m := N) (by omega) (by omega) (fun i _ hi => hstep i (by omega) (by omega)) ?_
        obtain ⟨g1, g2, g3, g4⟩ := bg_spec (L := bs s) (cn (bs s) s.size) (by rw [← hz]; omega)
        rw [← hz] at g1
        have e := bg_last (L := bs s)
        rw [← hz] at e
        have h3 : (0 : Int) ≤ bg (bs s) (cn (bs s) s.size) ∧ (bg (bs s) (cn (bs s) s.size) : Int) ≤ s.size := by omega
        have h4 : ((cn (bs s) s.size : Int) + 1) < line := by omega
        have h6 : ¬ (s.size < s.size) := by omega
        have h7 : (-1 : Int) < 0 := by omega
        simp only [place_begins_l3_T, run_br, run_call, run_ret, ltI_eq, leI_eq, Bool.and_eq_true, decide_eq_true_eq, if_pos h4, if_pos h3, toNat_nat, idx_of N s g1, e, if_neg h6, Option.bind_some, if_pos h7]
      rw [if_neg (by omega)]
      simp only [place_begins, place_begins_T, run_call, hl3, Option.bind_some, run_inl, run_ret]
  · have hl3 : place_begins_l3 N s line (0, 1) = some (.inr 0) := by
      unfold place_begins_l3
      refine loop_stop (by omega) ?_
      have : ¬ ((1 : Int) < line) := by omega
      simp only [place_begins_l3_T, run_br, run_ret, ltI_eq, decide_eq_true_eq, if_neg this]
    have h5 : ¬ (0 : Int) < line := by omega
    rw [if_neg (by omega)]
    simp only [place_begins, place_begins_T, run_call, hl3, Option.bind_some, run_inr, run_ret, ltI_eq, decide_eq_false h5]

/-- A line's length. -/
def ll (s : ByteArray) (j : Nat) : Nat := en (bs s) (bg (bs s) j) - bg (bs s) j
theorem ln_size (s : ByteArray) {j : Nat} (h : j ≤ cn (bs s) s.size) : (ln s j).size = ll s j := by
  have hz := bs_size s
  obtain ⟨g1, g2, g3, g4⟩ := bg_spec (L := bs s) j (by rw [← hz]; omega)
  have e1 := en_spec g1
  rw [bs_size, ln, bs_extract, List.length_take, List.length_drop]
  unfold ll
  omega

/-- Where a line and column is. -/
def atS (s : ByteArray) (line col : Int) : Int × Bool :=
  if 1 ≤ line ∧ line ≤ cn (bs s) s.size + 1 ∧ 1 ≤ col ∧ col ≤ ll s (line.toNat - 1) + 1 then ((bg (bs s) (line.toNat - 1) : Int) + col - 1, true) else (0, false)

theorem at_is (N : Nat) (s : ByteArray) (line col : Int) (hs : s.size ≤ 100000) (hN : s.size + 1 < N) (hc : col ≤ 9223372036854775807) : place_At N s line col = some (atS s line col) := by
  have hz := bs_size s
  simp only [place_At, place_At_T, run_call, begins_is N s line hs hN, Option.bind_some, atS]
  by_cases h1 : 1 ≤ line ∧ line ≤ cn (bs s) s.size + 1
  · obtain ⟨g1, g2, g3, g4⟩ := bg_spec (L := bs s) (line.toNat - 1) (by rw [← hz]; omega)
    have e1 := en_spec g1
    rw [← hz] at g1 e1
    rw [if_pos h1]
    simp only [Bool.not_true, run_br, Bool.false_eq_true, if_false, run_call, end_is N s g1 hs, Option.bind_some, ltI_eq, decide_eq_true_eq, run_ret]
    by_cases h2 : col < 1
    · rw [if_pos h2, if_neg (by omega)]
    · rw [if_neg h2, i64_in (x := (en (bs s) (bg (bs s) (line.toNat - 1)) : Int) - bg (bs s) (line.toNat - 1)) (by omega), i64_in (x := col - 1) (by omega)]
      unfold ll
      by_cases h3 : (en (bs s) (bg (bs s) (line.toNat - 1)) : Int) - bg (bs s) (line.toNat - 1) < col - 1
      · rw [if_pos h3, if_neg (by omega)]
      · rw [if_neg h3, if_pos (by omega), i64_in (x := (bg (bs s) (line.toNat - 1) : Int) + col) (by omega), i64_in (by omega)]
  · rw [if_neg h1, if_neg (by omega)]
    simp only [Bool.not_false, run_br, if_true, run_ret]

theorem line_is (N : Nat) (s : ByteArray) (line : Int) (hs : s.size ≤ 100000) (hN : s.size + 1 < N) :
    place_Line N s line = some (if 1 ≤ line ∧ line ≤ cn (bs s) s.size + 1 then (ln s (line.toNat - 1), true) else (ByteArray.empty, false)) := by
  have hz := bs_size s
  simp only [place_Line, place_Line_T, run_call, begins_is N s line hs hN, Option.bind_some]
  by_cases h1 : 1 ≤ line ∧ line ≤ cn (bs s) s.size + 1
  · obtain ⟨g1, g2, g3, g4⟩ := bg_spec (L := bs s) (line.toNat - 1) (by rw [← hz]; omega)
    have e1 := en_spec g1
    rw [← hz] at g1 e1
    have h3 : (0 : Int) ≤ bg (bs s) (line.toNat - 1) ∧ ((bg (bs s) (line.toNat - 1) : Int) ≤ en (bs s) (bg (bs s) (line.toNat - 1)) ∧ (en (bs s) (bg (bs s) (line.toNat - 1)) : Int) ≤ s.size) := by omega
    rw [if_pos h1, if_pos h1]
    simp only [Bool.not_true, run_br, Bool.false_eq_true, if_false, run_call, end_is N s g1 hs, Option.bind_some, leI_eq, Bool.and_eq_true, decide_eq_true_eq, if_pos h3, run_ret, toNat_nat]
    rfl
  · rw [if_neg h1, if_neg h1]
    simp only [Bool.not_false, run_br, if_true, run_ret]

theorem lns_len (s : ByteArray) : (lns s).length = cn (bs s) s.size + 1 := by simp [lns]
theorem lns_get (s : ByteArray) {j : Nat} (h : j ≤ cn (bs s) s.size) : (lns s).getD j ByteArray.empty = ln s j := by
  rw [getD_nat _ _ _ (by rw [lns_len]; omega)]
  simp [lns]

theorem refAt_is (N : Nat) (s : ByteArray) (line col : Int) (hs : s.size ≤ 100000) (hN : s.size + 1 < N) (hc : col ≤ 9223372036854775807) : bautaref29_At N s line col = some (atS s line col) := by
  have hz := bs_size s
  have hT := cn_le (L := bs s) s.size
  simp only [bautaref29_At, bautaref29_At_T, run_call, lines_is N s hs (by omega), Option.bind_some, run_br, ltI_eq, decide_eq_true_eq, lns_len, atS]
  by_cases h1 : line < 1
  · rw [if_pos h1, if_neg (by omega)]; rfl
  rw [if_neg h1]
  by_cases h2 : ((cn (bs s) s.size + 1 : Nat) : Int) < line
  · rw [if_pos h2, if_neg (by omega)]; rfl
  rw [if_neg h2]
  by_cases h3 : col < 1
  · rw [if_pos h3, if_neg (by omega)]; rfl
  rw [if_neg h3]
  obtain ⟨j, hj⟩ : ∃ j : Nat, line = (j : Int) + 1 := ⟨(line - 1).toNat, by omega⟩
  subst hj
  have hjT : j ≤ cn (bs s) s.size := by omega
  have ew : IntKind.i64.wrap ((j : Int) + 1 - 1) = j := by rw [i64_in (by omega)]; omega
  have e0 : ((j : Int) + 1).toNat - 1 = j := by omega
  have g := bg_spec (L := bs s) j (by rw [← hz]; omega)
  have e1 := en_spec g.1
  rw [← hz] at g e1
  have hll : ll s j ≤ s.size := by unfold ll; omega
  rw [ew, e0]
  simp only [inRange_iff, toNat_nat]
  rw [if_pos (by omega)]
  simp only [lns_get s hjT, ln_size s hjT, i64_in (x := (ll s j : Int) + 1) (by omega), toNat_nat]
  by_cases h4 : (ll s j : Int) + 1 < col
  · rw [if_pos h4, if_neg (by omega)]; rfl
  rw [if_neg h4, if_pos (by omega)]
  have hl6 : bautaref29_At_l6 N ((j : Int) + 1) (lns s) (0, 0) = some (bg (bs s) j : Int) := by
    unfold bautaref29_At_l6
    refine loop_up (s := fun v => bautaref29_At_l6_T N ((j : Int) + 1) (lns s) v.1 v.2) (fun i : Nat => ((bg (bs s) i : Int), (i : Int))) j _ (k := 0) (m := N) (by omega) (by omega) (fun i _ hi => ?_) ?_
    · obtain ⟨k1, k2, k3, k4⟩ := bg_spec (L := bs s) i (by rw [← hz]; omega)
      have k5 := en_spec k1
      rw [← hz] at k1 k5
      have hli : ll s i ≤ s.size := by unfold ll; omega
      have hi1 : (i : Int) < j := by omega
      simp only [bautaref29_At_l6_T, run_br, run_ret, ltI_eq, decide_eq_true_eq, ew, if_pos hi1, inRange_iff, lns_len, toNat_nat]
      rw [if_pos (by omega), lns_get s (by omega), ln_size s (by omega), i64_in (x := (bg (bs s) i : Int) + ll s i) (by omega), i64_in (x := (bg (bs s) i : Int) + ll s i + 1) (by omega), i64_succ (i := i) (by omega), bg]
      simp only [Option.some.injEq, Sum.inl.injEq, Prod.mk.injEq, and_true]
      unfold ll
      omega
    · have : ¬ ((j : Int) < j) := by omega
      simp only [bautaref29_At_l6_T, run_br, run_ret, ltI_eq, decide_eq_true_eq, ew, if_neg this]
  simp only [run_call, run_ret, bautaref29_At_j4, bautaref29_At_j4_T, hl6, Option.bind_some]
  rw [i64_in (x := (bg (bs s) j : Int) + col) (by omega), i64_in (by omega)]
end Go.Proofs.YtklnpdnfjponpaaDoorV
