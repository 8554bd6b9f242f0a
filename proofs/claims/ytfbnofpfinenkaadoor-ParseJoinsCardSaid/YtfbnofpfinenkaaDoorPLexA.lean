/- Bytes, runs and blanks of lex and of its reference. -/
import Derived.Test.YtfbnofpfinenkaaDoorPard
import Derived.Test.YtfbnofpfinenkaaDoorWa
import Derived.Lib.Strings
namespace Go.Proofs.YtfbnofpfinenkaaDoorV
set_option linter.unusedVariables false
set_option linter.unusedSimpArgs false

abbrev bs (s : ByteArray) : List UInt8 := s.data.toList
theorem bs_size (s : ByteArray) : s.size = (bs s).length := Lib.size_eq s
theorem bs_ext {a b : ByteArray} (h : bs a = bs b) : a = b := by
  obtain ⟨⟨x⟩⟩ := a
  obtain ⟨⟨y⟩⟩ := b
  simp only [bs] at h
  rw [h]
theorem bs_extract (s : ByteArray) (a b : Nat) : bs (s.extract a b) = ((bs s).drop a).take (b - a) := Lib.extract_data s a b
theorem bs_append (a b : ByteArray) : bs (a ++ b) = bs a ++ bs b := by simp [bs]
theorem bs_tail (s : ByteArray) (a : Nat) : bs (s.extract a s.size) = (bs s).drop a := by
  rw [bs_extract, List.take_of_length_le (by rw [List.length_drop, ← bs_size]; omega)]
theorem size_tail (s : ByteArray) (a : Nat) : (s.extract a s.size).size = s.size - a := by
  rw [bs_size, bs_tail, List.length_drop, ← bs_size]
theorem bAt_is (s : ByteArray) (i : Nat) : bAt s i = (((bs s).getD i 0).toNat : Int) := rfl

def isLet (c : UInt8) : Bool := (decide (65 ≤ c.toNat) && decide (c.toNat ≤ 90)) || (decide (97 ≤ c.toNat) && decide (c.toNat ≤ 122))
def isDig (c : UInt8) : Bool := decide (48 ≤ c.toNat) && decide (c.toNat ≤ 57)
def isAln (c : UInt8) : Bool := isLet c || isDig c
def isInn (c : UInt8) : Bool := isLet c || isDig c || decide (c.toNat = 95)
def isWs (c : UInt8) : Bool := decide (c.toNat = 32) || decide (c.toNat = 9) || decide (c.toNat = 10)
def isLin (c : UInt8) : Bool := decide (c.toNat ≠ 10)

theorem ni (n : Nat) (k : Nat) : (((n : Int) == (k : Int)) = true) = (n = k) := by simp; omega
theorem letter_is (N : Nat) (c : UInt8) : lex_letter N (c.toNat : Int) = some (isLet c) := by
  simp only [lex_letter, lex_letter_T, run_br, run_ret, leI_eq, decide_eq_true_eq, isLet]
  by_cases h1 : 65 ≤ c.toNat <;> by_cases h2 : c.toNat ≤ 90 <;> by_cases h3 : 97 ≤ c.toNat <;> by_cases h4 : c.toNat ≤ 122 <;>
    simp only [h1, h2, h3, h4, show ((65 : Int) ≤ c.toNat) = (65 ≤ c.toNat) from propext (by omega), show ((c.toNat : Int) ≤ 90) = (c.toNat ≤ 90) from propext (by omega), show ((97 : Int) ≤ c.toNat) = (97 ≤ c.toNat) from propext (by omega), show ((c.toNat : Int) ≤ 122) = (c.toNat ≤ 122) from propext (by omega)] <;> rfl
theorem digit_is (N : Nat) (c : UInt8) : lex_digit N (c.toNat : Int) = some (isDig c) := by
  simp only [lex_digit, lex_digit_T, run_br, run_ret, leI_eq, decide_eq_true_eq, isDig]
  by_cases h1 : 48 ≤ c.toNat <;> by_cases h2 : c.toNat ≤ 57 <;>
    simp only [h1, h2, show ((48 : Int) ≤ c.toNat) = (48 ≤ c.toNat) from propext (by omega), show ((c.toNat : Int) ≤ 57) = (c.toNat ≤ 57) from propext (by omega)] <;> rfl
theorem rletter_is (N : Nat) (c : UInt8) : bautaref09_letter N (c.toNat : Int) = some (isLet c) := letter_is N c
theorem rnum_is (N : Nat) (c : UInt8) : bautaref09_num N (c.toNat : Int) = some (isDig c) := digit_is N c
theorem beqn (n k : Nat) : (((n : Int)) == (k : Int)) = decide (n = k) := by
  by_cases h : n = k
  · subst h; simp
  · have : ¬ (n : Int) = k := by omega
    simp [h, this]
theorem bnen (n k : Nat) : (((n : Int)) != (k : Int)) = decide (n ≠ k) := by
  rw [bne, beqn]; simp
theorem inner_is (N : Nat) (c : UInt8) : lex_inner N (c.toNat : Int) = some (isInn c) := by
  have e := beqn c.toNat 95
  simp only [lex_inner, lex_inner_T, run_br, run_ret, run_call, letter_is, digit_is, Option.bind_some, isInn]
  rw [show (95 : Int) = ((95 : Nat) : Int) from rfl, e]
  cases isLet c <;> cases isDig c <;> simp
theorem aln_is (N : Nat) (c : UInt8) : lex_next_1 N (c.toNat : Int) = some (isAln c) := by
  simp only [lex_next_1, lex_next_1_T, run_br, run_ret, run_call, letter_is, digit_is, Option.bind_some, isAln]
  cases isLet c <;> cases isDig c <;> simp
theorem ws_is (N : Nat) (c : UInt8) : lex_blank_1 N (c.toNat : Int) = some (isWs c) := by
  simp only [lex_blank_1, lex_blank_1_T, run_br, run_ret, isWs]
  rw [show (32 : Int) = ((32 : Nat) : Int) from rfl, show (9 : Int) = ((9 : Nat) : Int) from rfl, show (10 : Int) = ((10 : Nat) : Int) from rfl]
  simp only [beqn, decide_eq_true_eq]
  by_cases h1 : c.toNat = 32 <;> by_cases h2 : c.toNat = 9 <;> by_cases h3 : c.toNat = 10 <;> simp [h1, h2, h3]
theorem lin_is (N : Nat) (c : UInt8) : lex_blank_2 N (c.toNat : Int) = some (isLin c) := by
  simp only [lex_blank_2, lex_blank_2_T, run_ret, isLin]
  rw [show (10 : Int) = ((10 : Nat) : Int) from rfl, bnen]

/-! ### Runs -/
def tw (p : UInt8 → Bool) : List UInt8 → Nat
  | [] => 0
  | c :: l => if p c = true then tw p l + 1 else 0
theorem tw_le (p : UInt8 → Bool) : ∀ l, tw p l ≤ l.length
  | [] => Nat.le_refl _
  | c :: l => by have := tw_le p l; rw [tw]; split <;> simp <;> omega
theorem tw_all (p : UInt8 → Bool) : ∀ l, tw p l = l.length → ∀ c ∈ l, p c = true
  | [], _ => by simp
  | c :: l, h => by
    rw [tw] at h
    split at h
    · rename_i hc
      intro d hd
      rcases List.mem_cons.1 hd with rfl | hd
      · exact hc
      · exact tw_all p l (by simpa using h) d hd
    · simp at h
theorem all_tw (p : UInt8 → Bool) : ∀ l : List UInt8, (∀ c ∈ l, p c = true) → tw p l = l.length
  | [], _ => rfl
  | c :: l, h => by
    rw [tw, if_pos (h c (by simp)), all_tw p l (fun d hd => h d (by simp [hd]))]
    simp
theorem tw_take (p : UInt8 → Bool) : ∀ l : List UInt8, ∀ c ∈ l.take (tw p l), p c = true
  | [], c, h => by simp at h
  | d :: l, c, h => by
    rw [tw] at h
    split at h
    · rw [List.take_succ_cons] at h
      rcases List.mem_cons.1 h with rfl | h
      · assumption
      · exact tw_take p l c h
    · simp at h

theorem drop_at (l : List UInt8) {i : Nat} (h : i < l.length) : l.drop i = l.getD i 0 :: l.drop (i + 1) := by
  rw [getD_nat _ _ _ h]
  exact drop_cons l h

/-- A run, from place a on. -/
theorem run_from {T : Int → Tree (Int ⊕ Int)} (s : ByteArray) (p : UInt8 → Bool)
    (hT : ∀ i : Nat, i < s.size → (T (i : Int)).run some = some (if p ((bs s).getD i 0) = true then .inl ((i + 1 : Nat) : Int) else .inr (i : Int)))
    (hE : (T (s.size : Int)).run some = some (.inr (s.size : Int))) {a m : Nat} (ha : a ≤ s.size) (hm : s.size - a < m) :
    loopN T m (a : Int) = some (((a + tw p ((bs s).drop a) : Nat)) : Int) := by
  have hs := bs_size s
  refine loop_st (ι := Nat) (fun i => (i : Int)) (fun i => s.size - i) (fun i => i ≤ s.size) (fun i => ((i + tw p ((bs s).drop i) : Nat) : Int)) (fun i hi => ?_) m a ha hm
  rcases Nat.lt_or_ge i s.size with h | h
  · rw [hT i h, drop_at _ (by omega : i < (bs s).length), tw]
    by_cases hp : p ((bs s).getD i 0) = true
    · refine .inl ⟨i + 1, by rw [if_pos hp], by omega, by omega, ?_⟩
      rw [if_pos hp]
      congr 1
      omega
    · refine .inr ?_
      rw [if_neg hp, if_neg hp]; rfl
  · obtain rfl : i = s.size := by omega
    refine .inr ?_
    rw [hE, List.drop_of_length_le (by omega)]; rfl

theorem runE {a : Nat} {x y : Tree (Int ⊕ Int)} : (Tree.br (ltI (a : Int) (a : Int)) x y).run some = y.run some := by
  rw [run_br, if_neg (by rw [ltI_iff]; omega)]

section
variable (N : Nat) (s : ByteArray) (hs : s.size ≤ 4611686018427387904) (hN : s.size < N)
include hs hN
theorem run_ws : lex_run N s = some ((tw isWs (bs s) : Nat) : Int) := by
  have := run_from (T := fun v => lex_run_l2_T N s v) s isWs (fun i hi => ?_) (by rw [lex_run_l2_T]; exact runE) (Nat.zero_le _) (m := N) (by omega)
  · simp only [lex_run, lex_run_T, run_call, run_ret, lex_run_l2]
    rw [show (0 : Int) = ((0 : Nat) : Int) from rfl, this]; simp
  · simp only [lex_run_l2_T, run_br, run_call, run_ret, ltI_iff, inRange_iff, toNat_nat, bAt_is, ws_is, Option.bind_some]
    rw [if_pos (by omega), if_pos (by omega), i64_succ (by omega)]
    split <;> rfl
theorem run_lin : lex_run_2 N s = some ((tw isLin (bs s) : Nat) : Int) := by
  have := run_from (T := fun v => lex_run_2_l2_T N s v) s isLin (fun i hi => ?_) (by rw [lex_run_2_l2_T]; exact runE) (Nat.zero_le _) (m := N) (by omega)
  · simp only [lex_run_2, lex_run_2_T, run_call, run_ret, lex_run_2_l2]
    rw [show (0 : Int) = ((0 : Nat) : Int) from rfl, this]; simp
  · simp only [lex_run_2_l2_T, run_br, run_call, run_ret, ltI_iff, inRange_iff, toNat_nat, bAt_is, lin_is, Option.bind_some]
    rw [if_pos (by omega), if_pos (by omega), i64_succ (by omega)]
    split <;> rfl
theorem run_inn : lex_run_3 N s = some ((tw isInn (bs s) : Nat) : Int) := by
  have := run_from (T := fun v => lex_run_3_l2_T N s v) s isInn (fun i hi => ?_) (by rw [lex_run_3_l2_T]; exact runE) (Nat.zero_le _) (m := N) (by omega)
  · simp only [lex_run_3, lex_run_3_T, run_call, run_ret, lex_run_3_l2]
    rw [show (0 : Int) = ((0 : Nat) : Int) from rfl, this]; simp
  · simp only [lex_run_3_l2_T, run_br, run_call, run_ret, ltI_iff, inRange_iff, toNat_nat, bAt_is, inner_is, Option.bind_some]
    rw [if_pos (by omega), if_pos (by omega), i64_succ (by omega)]
    split <;> rfl
theorem run_aln : lex_run_4 N s = some ((tw isAln (bs s) : Nat) : Int) := by
  have := run_from (T := fun v => lex_run_4_l2_T N s v) s isAln (fun i hi => ?_) (by rw [lex_run_4_l2_T]; exact runE) (Nat.zero_le _) (m := N) (by omega)
  · simp only [lex_run_4, lex_run_4_T, run_call, run_ret, lex_run_4_l2]
    rw [show (0 : Int) = ((0 : Nat) : Int) from rfl, this]; simp
  · simp only [lex_run_4_l2_T, run_br, run_call, run_ret, ltI_iff, inRange_iff, toNat_nat, bAt_is, aln_is, Option.bind_some]
    rw [if_pos (by omega), if_pos (by omega), i64_succ (by omega)]
    split <;> rfl
end

theorem prefix_is (N : Nat) (s t : ByteArray) : strings_HasPrefix N s t = some ((bs t).isPrefixOf (bs s)) := by
  have := Lib.hasPrefix_raw s t
  simp only [strings_HasPrefix, strings_HasPrefix_T, stringslite_HasPrefix, stringslite_HasPrefix_T, run_br, run_call, run_ret, leI_iff, Bool.and_eq_true, toNat_nat]
  rw [show (bs t).isPrefixOf (bs s) = Lib.hasPrefix s.data.toList t.data.toList from rfl, ← this]
  by_cases h : t.size ≤ s.size
  · rw [if_pos (by omega), if_pos (by omega)]
    simp [h]
  · rw [if_neg (by omega)]
    simp [h]

/-! ### Blanks and comments -/
def skipM : Bool → List UInt8 → Nat
  | _, [] => 0
  | true, c :: r => if c.toNat = 10 then skipM false r + 1 else skipM true r + 1
  | false, c :: r => if isWs c = true then skipM false r + 1 else if c.toNat = 47 ∧ (r.getD 0 0).toNat = 47 then skipM true r + 1 else 0
theorem skipM_t (c : UInt8) (r : List UInt8) : skipM true (c :: r) = if c.toNat = 10 then skipM false r + 1 else skipM true r + 1 := rfl
theorem skipM_f (c : UInt8) (r : List UInt8) : skipM false (c :: r) = if isWs c = true then skipM false r + 1 else if c.toNat = 47 ∧ (r.getD 0 0).toNat = 47 then skipM true r + 1 else 0 := rfl
theorem lin_of {c : UInt8} (h : c.toNat ≠ 10) : isLin c = true := by simp [isLin, h]
abbrev skipL (l : List UInt8) : Nat := skipM false l
theorem skip_le : ∀ (b : Bool) (l : List UInt8), skipM b l ≤ l.length
  | _, [] => by cases ‹Bool› <;> simp [skipM]
  | true, c :: r => by have := skip_le false r; have := skip_le true r; rw [skipM]; split <;> simp <;> omega
  | false, c :: r => by have := skip_le false r; have := skip_le true r; rw [skipM]; split <;> (try split) <;> simp <;> omega
theorem skip_line : ∀ l : List UInt8, skipM true l = tw isLin l + skipL (l.drop (tw isLin l))
  | [] => rfl
  | c :: r => by
    have ih := skip_line r
    rw [skipM, tw]
    by_cases h : c.toNat = 10
    · have h1 : isLin c = false := by simp [isLin, h]
      have h2 : isWs c = true := by simp [isWs, h]
      rw [if_pos h, h1]
      simp only [Bool.false_eq_true, if_false, List.drop_zero, skipL]
      rw [skipM, if_pos h2]; omega
    · have h1 : isLin c = true := by simp [isLin, h]
      rw [if_neg h, if_pos h1, ih, List.drop_succ_cons]
      omega
theorem skip_ws : ∀ l : List UInt8, skipL l = tw isWs l + skipL (l.drop (tw isWs l))
  | [] => rfl
  | c :: r => by
    have ih := skip_ws r
    rw [tw]
    by_cases h : isWs c = true
    · rw [if_pos h, List.drop_succ_cons, skipL, skipM, if_pos h]
      simp only [skipL] at ih ⊢
      omega
    · rw [if_neg h]; simp
theorem skip_com {l : List UInt8} (h : ([47, 47] : List UInt8).isPrefixOf l = true) : skipL l = tw isLin l + skipL (l.drop (tw isLin l)) ∧ 0 < tw isLin l := by
  match l, h with
  | [], h => simp [List.isPrefixOf] at h
  | [a], h => simp [List.isPrefixOf] at h
  | a :: b :: r, h =>
    simp only [List.isPrefixOf, Bool.and_eq_true, beq_iff_eq, Bool.and_true] at h
    obtain ⟨rfl, rfl⟩ := h
    have h1 := skip_line ((47 : UInt8) :: r)
    have e : tw isLin ((47 : UInt8) :: 47 :: r) = tw isLin ((47 : UInt8) :: r) + 1 := by
      rw [tw, if_pos (by decide)]
    refine ⟨?_, by omega⟩
    rw [e, List.drop_succ_cons, skipL, skipM, if_neg (by decide), if_pos ⟨by decide, by simp⟩, h1]
    omega
theorem skip_none {l : List UInt8} (h : ([47, 47] : List UInt8).isPrefixOf l = false) (h0 : tw isWs l = 0) : skipL l = 0 := by
  match l, h, h0 with
  | [], _, _ => rfl
  | a :: r, h, h0 =>
    rw [tw] at h0
    have ha : ¬ isWs a = true := by
      intro hh; rw [if_pos hh] at h0; omega
    rw [skipL, skipM, if_neg ha]
    refine if_neg fun ⟨h1, h2⟩ => ?_
    have e1 : a = 47 := UInt8.toNat_inj.1 (by simpa using h1)
    subst e1
    match r, h, h2 with
    | [], _, h2 => simp at h2
    | b :: r, h, h2 =>
      have e2 : b = 47 := UInt8.toNat_inj.1 (by simpa using h2)
      subst e2
      simp [List.isPrefixOf] at h

theorem blank_is (N : Nat) (s : ByteArray) (hs : s.size ≤ 4611686018427387904) (hN : s.size + 1 < N) : lex_blank N s = some ((skipL (bs s) : Nat) : Int) := by
  have hl := bs_size s
  have key : loopN (fun v => lex_blank_l2_T N s v) N ((0 : Nat) : Int) = some (((0 + skipL ((bs s).drop 0) : Nat)) : Int) := by
    refine loop_st (ι := Nat) (fun i => (i : Int)) (fun i => s.size - i) (fun i => i ≤ s.size) (fun i => ((i + skipL ((bs s).drop i) : Nat) : Int)) (fun i hi => ?_) N 0 (Nat.zero_le _) (by omega)
    have hd : ((bs s).drop i).length = s.size - i := by rw [List.length_drop]; omega
    have e1 := tw_le isWs ((bs s).drop i)
    have w1 := run_ws N (s.extract i s.size) (by rw [size_tail]; omega) (by rw [size_tail]; omega)
    rw [bs_tail] at w1
    generalize hn1 : tw isWs ((bs s).drop i) = n1 at *
    have hsk := skip_ws ((bs s).drop i)
    rw [hn1, List.drop_drop] at hsk
    have p1 := prefix_is N (s.extract (i + n1) s.size) (⟨#[47, 47]⟩ : ByteArray)
    rw [bs_tail] at p1
    have a1 : IntKind.i64.wrap ((i : Int) + n1) = ((i + n1 : Nat) : Int) := by rw [i64_in (by omega)]; rfl
    simp only [lex_blank_l2_T, run_br, run_call, run_ret, leI_iff, Bool.and_eq_true, toNat_nat, w1, Option.bind_some, a1, p1]
    rw [if_pos (by omega), if_pos (by omega)]
    by_cases hp : (bs (⟨#[47, 47]⟩ : ByteArray)).isPrefixOf ((bs s).drop (i + n1)) = true
    · obtain ⟨c1, c2⟩ := skip_com hp
      have e2 := tw_le isLin ((bs s).drop (i + n1))
      have hd2 : ((bs s).drop (i + n1)).length = s.size - (i + n1) := by rw [List.length_drop]; omega
      have w2 := run_lin N (s.extract (i + n1) s.size) (by rw [size_tail]; omega) (by rw [size_tail]; omega)
      rw [bs_tail] at w2
      generalize hn2 : tw isLin ((bs s).drop (i + n1)) = n2 at *
      have a2 : IntKind.i64.wrap ((n1 : Int) + n2) = ((n1 + n2 : Nat) : Int) := by rw [i64_in (by omega)]; rfl
      have a3 : IntKind.i64.wrap ((i : Int) + ((n1 + n2 : Nat) : Int)) = ((i + n1 + n2 : Nat) : Int) := by rw [i64_in (by omega)]; simp; omega
      have j : lex_blank_j5 N (i : Int) ((n1 + n2 : Nat) : Int) = some (.inr ((i + n1 + n2 : Nat) : Int)) := by
        simp only [lex_blank_j5, lex_blank_j5_T, run_br, run_ret, a3]
        rw [if_neg (by simp; omega)]
      rw [if_pos hp, if_pos (by omega), w2]
      simp only [Option.bind_some, a2, j, run_inr, run_ret]
      refine .inl ⟨i + n1 + n2, rfl, by omega, by omega, ?_⟩
      rw [List.drop_drop] at c1
      simp only [skipL] at hsk c1 ⊢
      rw [hsk, c1]
      congr 1; omega
    · rw [if_neg hp]
      rcases Nat.eq_zero_or_pos n1 with h0 | h0
      · subst h0
        have j : lex_blank_j5 N (i : Int) ((0 : Nat) : Int) = some (.inl ()) := rfl
        simp only [j, Option.bind_some, run_inl, run_ret]
        refine .inr ?_
        have := skip_none (l := (bs s).drop i) (Bool.eq_false_iff.2 hp) hn1
        rw [this]; rfl
      · have a3 : IntKind.i64.wrap ((i : Int) + (n1 : Int)) = ((i + n1 : Nat) : Int) := a1
        have j : lex_blank_j5 N (i : Int) (n1 : Int) = some (.inr ((i + n1 : Nat) : Int)) := by
          simp only [lex_blank_j5, lex_blank_j5_T, run_br, run_ret, a3]
          rw [if_neg (by simp; omega)]
        simp only [j, Option.bind_some, run_inr, run_ret]
        refine .inl ⟨i + n1, rfl, by omega, by omega, ?_⟩
        simp only [skipL] at hsk ⊢
        rw [hsk]
        congr 1; omega
  simp only [lex_blank, lex_blank_T, run_call, run_ret, lex_blank_l2]
  rw [show (0 : Int) = ((0 : Nat) : Int) from rfl, key]; simp

theorem rline_is (N : Nat) (s : ByteArray) (hs : s.size ≤ 4611686018427387904) (hN : s.size + 1 < N) {i : Nat} (hi : i ≤ s.size) : bautaref09_skip_l5 N s (i : Int) = some (((i + tw isLin ((bs s).drop i) : Nat)) : Int) := by
  refine run_from (T := fun v => bautaref09_skip_l5_T N s v) s isLin (fun i hi => ?_) (by rw [bautaref09_skip_l5_T]; exact runE) hi (by omega)
  simp only [bautaref09_skip_l5_T, run_br, run_call, run_ret, ltI_iff, inRange_iff, toNat_nat, bAt_is]
  rw [if_pos (by omega), if_pos (by omega), i64_succ (by omega), show (10 : Int) = ((10 : Nat) : Int) from rfl, bnen]
  rw [show decide (((bs s).getD i 0).toNat ≠ 10) = isLin ((bs s).getD i 0) from rfl]
  by_cases hd : isLin ((bs s).getD i 0) = true
  · rw [if_pos hd, if_pos hd]
  · rw [if_neg hd, if_neg hd]

theorem skip_is (N : Nat) (s : ByteArray) (hs : s.size ≤ 4611686018427387904) (hN : s.size + 1 < N) {a : Nat} (ha : a ≤ s.size) : bautaref09_skip N s (a : Int) = some (((a + skipL ((bs s).drop a) : Nat)) : Int) := by
  have hl := bs_size s
  have key : bautaref09_skip_l1 N s (a : Int) = some (if a + skipL ((bs s).drop a) < s.size then .inl (((a + skipL ((bs s).drop a) : Nat)) : Int) else .inr (((a + skipL ((bs s).drop a) : Nat)) : Int)) := by
    refine loop_st (ι := Nat) (s := fun v => bautaref09_skip_l1_T N s v) (fun i => (i : Int)) (fun i => s.size - i) (fun i => i ≤ s.size) (fun i => if i + skipL ((bs s).drop i) < s.size then .inl (((i + skipL ((bs s).drop i) : Nat)) : Int) else .inr (((i + skipL ((bs s).drop i) : Nat)) : Int)) (fun i hi => ?_) N a ha (by omega)
    rcases Nat.lt_or_ge i s.size with h | h
    · have hdr := drop_at (bs s) (by omega : i < (bs s).length)
      have jt : bautaref09_skip_j3 N s (i : Int) true = some (.inl ((i + 1 : Nat) : Int)) := by
        simp only [bautaref09_skip_j3, bautaref09_skip_j3_T, run_br, run_ret, if_pos, i64_succ (by omega : i < 9223372036854775807)]
      have hif : (if isWs ((bs s).getD i 0) = true then some (Sum.inl ((i + 1 : Nat) : Int)) else (((bautaref09_skip_j3 N s (i : Int) false).bind fun y => (Tree.alt y (fun a => Tree.ret (Sum.inl a)) (fun _ => Tree.ret (Sum.inr (Sum.inl (i : Int))))).run some) : Option (Int ⊕ (Int ⊕ Int)))) = (bautaref09_skip_l1_T N s (i : Int)).run some := by
        simp only [bautaref09_skip_l1_T, run_br, run_call, run_ret, ltI_iff, inRange_iff, toNat_nat, bAt_is]
        have hr : (0 : Int) ≤ (i : Int) ∧ (i : Int) < (s.size : Int) := by omega
        simp only [if_pos hr, if_pos hr.2]
        rw [show (32 : Int) = ((32 : Nat) : Int) from rfl, show (9 : Int) = ((9 : Nat) : Int) from rfl, show (10 : Int) = ((10 : Nat) : Int) from rfl]
        simp only [beqn, isWs, decide_eq_true_eq, Bool.or_eq_true]
        generalize (bs s).getD i 0 = c
        by_cases h1 : c.toNat = 32
        · simp [h1, jt]
        · by_cases h2 : c.toNat = 9
          · simp [h2, jt]
          · by_cases h3 : c.toNat = 10
            · simp [h3, jt]
            · simp [h1, h2, h3]
      show (∃ j, (bautaref09_skip_l1_T N s (i : Int)).run some = _ ∧ _) ∨ (bautaref09_skip_l1_T N s (i : Int)).run some = _
      rw [← hif]
      by_cases hw : isWs ((bs s).getD i 0) = true
      · refine .inl ⟨i + 1, by rw [if_pos hw], by omega, by omega, ?_⟩
        have e : i + skipL ((bs s).drop i) = i + 1 + skipL ((bs s).drop (i + 1)) := by
          rw [hdr, skipL, skipM, if_pos hw]; simp only [skipL]; omega
        simp only [e]
      · rw [if_neg hw]
        have hd : ((bs s).drop i).length = s.size - i := by rw [List.length_drop]; omega
        have j5t : bautaref09_skip_j5 N s (i : Int) true = some (.inl (((i + tw isLin ((bs s).drop i) : Nat)) : Int)) := by
          simp only [bautaref09_skip_j5, bautaref09_skip_j5_T, run_br, run_ret, run_call, if_pos, rline_is N s hs hN hi, Option.bind_some]
        have j5f : bautaref09_skip_j5 N s (i : Int) false = some (.inr ()) := rfl
        have g0 : ((bs s).drop (i + 1)).getD 0 0 = (bs s).getD (i + 1) 0 := by simp [List.getD_eq_getElem?_getD]
        have j3 : bautaref09_skip_j3 N s (i : Int) false = some (if ((bs s).getD i 0).toNat = 47 ∧ ((bs s).getD (i + 1) 0).toNat = 47 then .inl (((i + tw isLin ((bs s).drop i) : Nat)) : Int) else .inr ()) := by
          simp only [bautaref09_skip_j3, bautaref09_skip_j3_T, run_br, run_ret, run_call, ltI_iff, inRange_iff, toNat_nat, bAt_is, i64_succ (by omega : i < 9223372036854775807), Bool.false_eq_true, if_false]
          rw [if_pos (by omega), show (47 : Int) = ((47 : Nat) : Int) from rfl]
          simp only [beqn, decide_eq_true_eq]
          by_cases h1 : ((bs s).getD i 0).toNat = 47
          · rw [if_pos h1]
            by_cases h2 : i + 1 < s.size
            · rw [if_pos (by omega), if_pos (by omega)]
              by_cases h3 : ((bs s).getD (i + 1) 0).toNat = 47
              · simp only [h3, decide_true, j5t, Option.bind_some, run_inl, run_ret, h1, and_self, if_true]
              · simp only [h3, decide_false, j5f, Option.bind_some, run_inr, run_ret, and_false, if_false]
            · rw [if_neg (by omega)]
              have h3 : (bs s).getD (i + 1) 0 = 0 := getD_over _ _ (by omega)
              rw [h3]
              simp only [j5f, Option.bind_some, run_inr, run_ret]
              simp
          · rw [if_neg h1]
            simp only [j5f, Option.bind_some, run_inr, run_ret, h1, false_and, if_false]
        rw [j3]
        by_cases hc : ((bs s).getD i 0).toNat = 47 ∧ ((bs s).getD (i + 1) 0).toNat = 47
        · rw [if_pos hc]
          simp only [Option.bind_some, run_inl, run_ret]
          have htw := tw_le isLin ((bs s).drop i)
          have hpos : 0 < tw isLin ((bs s).drop i) := by
            rw [hdr, tw, if_pos (lin_of (by omega))]; omega
          refine .inl ⟨i + tw isLin ((bs s).drop i), rfl, by omega, by omega, ?_⟩
          have e : i + skipL ((bs s).drop i) = i + tw isLin ((bs s).drop i) + skipL ((bs s).drop (i + tw isLin ((bs s).drop i))) := by
            have e1 : skipL ((bs s).drop i) = skipM true ((bs s).drop i) := by
              rw [hdr, skipL, skipM_f, if_neg hw, if_pos (by rw [g0]; exact hc), skipM_t, if_neg (by omega)]
            have e2 := skip_line ((bs s).drop i)
            rw [List.drop_drop] at e2
            rw [e1, e2]; omega
          simp only [e]
        · rw [if_neg hc]
          simp only [Option.bind_some, run_inr, run_ret]
          refine .inr ?_
          have e : skipL ((bs s).drop i) = 0 := by rw [hdr, skipL, skipM, if_neg hw, if_neg (by rw [g0]; exact hc)]
          rw [e, if_pos (by omega)]; rfl
    · obtain rfl : i = s.size := by omega
      refine .inr ?_
      simp only [bautaref09_skip_l1_T, run_br, ltI_iff]
      rw [if_neg (by omega), run_ret, List.drop_of_length_le (by omega), if_neg (by simp [skipM])]
      rfl
  simp only [bautaref09_skip, bautaref09_skip_T, run_call, key, Option.bind_some]
  split <;> simp
end Go.Proofs.YtfbnofpfinenkaaDoorV
