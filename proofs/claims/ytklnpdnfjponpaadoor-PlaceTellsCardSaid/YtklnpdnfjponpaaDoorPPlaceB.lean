/- What place's functions, and the reference's, come to. -/
import Derived.Test.YtklnpdnfjponpaaDoorPPlaceA
namespace Go.Proofs.YtklnpdnfjponpaaDoorV
set_option linter.unusedVariables false
set_option linter.unusedSimpArgs false

/-- A place that is one of the text. -/
def ps (s : ByteArray) (a : Int) : Nat := if a < 0 then 0 else if (s.size : Int) < a then s.size else a.toNat
theorem ps_le (s : ByteArray) (a : Int) : ps s a ≤ s.size := by unfold ps; split <;> (try split) <;> omega

theorem short_is (N : Nat) (s : ByteArray) : ∃ s', bautalaw29_short N s = some s' ∧ s'.size ≤ 2000 := by
  by_cases h : 2000 < s.size
  · refine ⟨s.extract 0 2000, ?_, ?_⟩
    · have h1 : (2000 : Int) < s.size := by omega
      have h2 : (0 : Int) ≤ 2000 ∧ (2000 : Int) ≤ s.size := by omega
      simp only [bautalaw29_short, bautalaw29_short_T, run_br, run_ret, ltI_eq, leI_eq, Bool.and_eq_true, decide_eq_true_eq, if_pos h1, if_pos h2]
    · rw [bs_size, bs_extract]
      simp only [List.length_take]
      omega
  · refine ⟨s, ?_, by omega⟩
    have h1 : ¬ (2000 : Int) < s.size := by omega
    simp only [bautalaw29_short, bautalaw29_short_T, run_br, run_ret, ltI_eq, leI_eq, Bool.and_eq_true, decide_eq_true_eq, if_neg h1]

theorem inside_is (N : Nat) (s : ByteArray) (a : Int) : place_inside N s a = some (ps s a : Int) := by
  simp only [place_inside, place_inside_T, run_ret, ps]
  congr 1
  split <;> split <;> (try split) <;> (try split) <;> omega

theorem start_is (N : Nat) (s : ByteArray) {i : Nat} (h : i ≤ s.size) (hs : s.size ≤ 100000) : place_start N s i = some (st (bs s) i : Int) := by
  have h1 : (0 : Int) ≤ i ∧ (i : Int) ≤ s.size := by omega
  have h2 : (s.extract 0 i).size < 4611686018427387904 := by
    rw [bs_size, bs_extract, List.length_take]; omega
  have h3 := last_take s h
  have h4 := st_le (L := bs s) i
  simp only [place_start, place_start_T, strings_LastIndexByte, run_br, run_call, run_ret, leI_eq, Bool.and_eq_true, decide_eq_true_eq, if_pos h1, toNat_nat, if_pos h2, Option.bind_some, h3, i64_nat (n := st (bs s) i) (by omega)]

theorem end_is (N : Nat) (s : ByteArray) {i : Nat} (h : i ≤ s.size) (hs : s.size ≤ 100000) : place_end N s i = some (en (bs s) i : Int) := by
  have h1 : (0 : Int) ≤ i ∧ (i : Int) ≤ s.size := by omega
  have hb : bs (s.extract i s.size) = (bs s).drop i := by
    rw [bs_extract, List.take_of_length_le (by rw [List.length_drop, ← bs_size]; omega)]
  have hle : ((bs s).drop i).findIdx (· == 10) ≤ ((bs s).drop i).length := List.findIdx_le_length
  have hl : ((bs s).drop i).length = s.size - i := by rw [List.length_drop, ← bs_size]
  have h10 : Int.toNat 10 = 10 := rfl
  have hi := idx_is ((bs s).drop i)
  simp only [place_end, place_end_T, strings_IndexByte, run_br, run_call, run_ret, leI_eq, Bool.and_eq_true, decide_eq_true_eq, if_pos h1, toNat_nat, Option.bind_some]
  rw [show (s.extract i s.size).data.toList = (bs s).drop i from hb, show (10 : Int).toNat.toUInt8 = 10 from rfl, hi]
  by_cases hf : ((bs s).drop i).findIdx (· == 10) < ((bs s).drop i).length
  · rw [if_pos hf, if_pos (by omega), i64_in (by omega)]
    simp [en]
  · rw [if_neg hf, if_neg (by omega)]
    simp only [en, Option.some.injEq]
    omega

theorem count1_is (N : Nat) (s : ByteArray) {i : Nat} (h : i ≤ s.size) : strings_Count N (s.extract 0 i) (⟨#[10]⟩ : ByteArray) = some (cn (bs s) i : Int) := by
  have hb : (s.extract 0 i).data.toList = (bs s).take i := by
    have := bs_extract s 0 i
    rw [List.drop_zero, Nat.sub_zero] at this
    exact this
  have := count_is (bs s) i (by rw [← bs_size]; exact h)
  simp only [strings_Count, hb, this]

theorem of_is (N : Nat) (s : ByteArray) (a : Int) (hs : s.size ≤ 100000) : place_of N s a = some ((cn (bs s) (ps s a) : Int) + 1, (ps s a : Int) - st (bs s) (ps s a) + 1) := by
  have hp := ps_le s a
  have h1 : (0 : Int) ≤ ps s a ∧ (ps s a : Int) ≤ s.size := by omega
  have h4 := st_le (L := bs s) (ps s a)
  have h5 := cn_le (L := bs s) (ps s a)
  simp only [place_of, place_of_T, inside_is, run_br, run_call, run_ret, leI_eq, Bool.and_eq_true, decide_eq_true_eq, if_pos h1, toNat_nat, Option.bind_some, count1_is N s hp, start_is N s hp hs,
    i64_in (x := (cn (bs s) (ps s a) : Int) + 1) (by omega), i64_in (x := (ps s a : Int) - st (bs s) (ps s a)) (by omega), i64_in (x := (ps s a : Int) - st (bs s) (ps s a) + 1) (by omega)]

theorem bAt_10 (s : ByteArray) (i : Nat) : (bAt s i = 10) = ((bs s).getD i 0 = 10) := b10 _

theorem refOf_is (N : Nat) (s : ByteArray) (a : Int) (hs : s.size ≤ 100000) (hN : s.size < N) : bautaref29_Of N s a = some ((cn (bs s) (ps s a) : Int) + 1, (ps s a : Int) - st (bs s) (ps s a) + 1) := by
  have hp := ps_le s a
  have : bautaref29_Of_l3 N s a (1, 1, 0) = some ((cn (bs s) (ps s a) : Int) + 1, (ps s a : Int) - st (bs s) (ps s a) + 1) := by
    unfold bautaref29_Of_l3
    refine loop_up (s := fun v => bautaref29_Of_l3_T N s a v.1 v.2.1 v.2.2) (fun i : Nat => ((cn (bs s) i : Int) + 1, (i : Int) - st (bs s) i + 1, (i : Int))) (ps s a) _ (k := 0) (m := N) (by omega) (by omega) (fun i _ hi => ?_) ?_
    · have h1 : (i : Int) < s.size := by omega
      have h2 : (i : Int) < a := by unfold ps at hi; split at hi <;> (try split at hi) <;> omega
      have h3 : (0 : Int) ≤ i ∧ (i : Int) < s.size := by omega
      have h4 := st_le (L := bs s) i
      have h5 := cn_le (L := bs s) i
      simp only [bautaref29_Of_l3_T, bautaref29_Of_j5, bautaref29_Of_j5_T, run_br, run_call, run_ret, ltI_eq, decide_eq_true_eq, if_pos h1, if_pos h2, inRange_iff, if_pos h3, toNat_nat, beq_iffI, bAt_10]
      by_cases h10 : (bs s).getD i 0 = 10
      · rw [if_pos h10, cn, st, if_pos h10, if_pos h10, i64_in (x := (cn (bs s) i : Int) + 1 + 1) (by omega), i64_succ (i := i) (by omega)]
        simp only [Option.bind_some, Option.some.injEq, Sum.inl.injEq, Prod.mk.injEq, and_true]
        omega
      · rw [if_neg h10, cn, st, if_neg h10, if_neg h10, i64_in (x := (i : Int) - st (bs s) i + 1 + 1) (by omega), i64_succ (i := i) (by omega)]
        simp only [Option.bind_some, Option.some.injEq, Sum.inl.injEq, Prod.mk.injEq, and_true]
        omega
    · by_cases h1 : (ps s a : Int) < s.size
      · have h2 : ¬ (ps s a : Int) < a := by unfold ps at h1 ⊢; split at h1 <;> (try split at h1) <;> (try split) <;> omega
        simp only [bautaref29_Of_l3_T, run_br, run_ret, ltI_eq, decide_eq_true_eq, if_pos h1, if_neg h2]
      · simp only [bautaref29_Of_l3_T, run_br, run_ret, ltI_eq, decide_eq_true_eq, if_neg h1]
  simp only [bautaref29_Of, bautaref29_Of_T, run_call, run_ret, this, Option.bind_some]

/-- A line of the text. -/
def ln (s : ByteArray) (j : Nat) : ByteArray := s.extract (bg (bs s) j) (en (bs s) (bg (bs s) j))
def lns (s : ByteArray) : List ByteArray := (List.range (cn (bs s) s.size + 1)).map (ln s)

theorem lines_is (N : Nat) (s : ByteArray) (hs : s.size ≤ 100000) (hN : s.size < N) : bautaref29_Lines N s = some (lns s) := by
  have hz := bs_size s
  have : bautaref29_Lines_l3 N s (0, 0, []) = some ((st (bs s) s.size : Int), (List.range (cn (bs s) s.size)).map (ln s)) := by
    unfold bautaref29_Lines_l3
    refine loop_up (s := fun v => bautaref29_Lines_l3_T N s v.1 v.2.1 v.2.2) (fun i : Nat => ((st (bs s) i : Int), (i : Int), (List.range (cn (bs s) i)).map (ln s))) s.size _ (k := 0) (m := N) (by omega) (by omega) (fun i _ hi => ?_) ?_
    · have h1 : (i : Int) < s.size := by omega
      have h3 : (0 : Int) ≤ i ∧ (i : Int) < s.size := by omega
      have h4 := st_le (L := bs s) i
      have h5 := cn_le (L := bs s) i
      have h6 : (0 : Int) ≤ st (bs s) i ∧ ((st (bs s) i : Int) ≤ i ∧ (i : Int) ≤ s.size) := by omega
      have hcap : ltI ((((List.range (cn (bs s) i)).map (ln s)).length + 1 : Int) * 16) 140737488355328 = true := by
        rw [ltI_eq, decide_eq_true_eq, List.length_map, List.length_range]; omega
      simp only [bautaref29_Lines_l3_T, run_br, run_ret, hcap, if_true, inRange_iff, if_pos h3, toNat_nat, beq_iffI, bAt_10]
      simp only [ltI_eq, leI_eq, Bool.and_eq_true, decide_eq_true_eq, if_pos h1, if_pos h6]
      by_cases h10 : (bs s).getD i 0 = 10
      · have hln : ln s (cn (bs s) i) = s.extract (st (bs s) i) i := by
          rw [ln, bg_cn (by omega), en_st (by omega), en_at (by omega) h10]
        rw [if_pos h10, cn, st, if_pos h10, if_pos h10, i64_succ (i := i) (by omega), List.range_succ, List.map_append, List.map_singleton, hln]
      · rw [if_neg h10, cn, st, if_neg h10, if_neg h10, i64_succ (i := i) (by omega)]
        rfl
    · have h1 : ¬ (s.size : Int) < s.size := by omega
      simp only [bautaref29_Lines_l3_T, run_br, run_ret, ltI_eq, decide_eq_true_eq, if_neg h1]
  have h4 := st_le (L := bs s) s.size
  have h5 := cn_le (L := bs s) s.size
  have h6 : (0 : Int) ≤ st (bs s) s.size ∧ ((st (bs s) s.size : Int) ≤ s.size) := by omega
  have hcap : ltI ((((List.range (cn (bs s) s.size)).map (ln s)).length + 1 : Int) * 16) 140737488355328 = true := by
    rw [ltI_eq, decide_eq_true_eq, List.length_map, List.length_range]; omega
  have hln : ln s (cn (bs s) s.size) = s.extract (st (bs s) s.size) s.size := by
    have e : en (bs s) (bg (bs s) (cn (bs s) s.size)) = s.size := by rw [hz]; exact bg_last
    rw [ln, e, bg_cn (by omega)]
  simp only [bautaref29_Lines, bautaref29_Lines_T, run_call, run_br, run_ret, this, Option.bind_some, hcap, if_true, toNat_nat]
  simp only [leI_eq, Bool.and_eq_true, decide_eq_true_eq, if_pos h6]
  rw [lns, List.range_succ, List.map_append, List.map_singleton, hln]
end Go.Proofs.YtklnpdnfjponpaaDoorV
