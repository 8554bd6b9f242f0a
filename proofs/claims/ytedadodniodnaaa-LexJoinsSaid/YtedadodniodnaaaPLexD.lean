/- The plain laws LexWords and LexOrder; what Name and lives come to. -/
import Derived.Test.YtedadodniodnaaaPLexC
namespace Go.Proofs.YtedadodniodnaaaV
set_option linter.unusedVariables false
set_option linter.unusedSimpArgs false

def nameL (l : List UInt8) : Bool := !l.isEmpty && (isLet (l.getD 0 0) && (decide (tw isInn l = l.length) && (decide (l.length ≤ 32) && !isWordL l)))

theorem name_is (N : Nat) (s : ByteArray) (hs : s.size ≤ 4611686018427387904) (hN : s.size < N) : lex_Name N s = some (nameL (bs s)) := by
  have hl := bs_size s
  have r := run_inn N s hs hN
  simp only [lex_Name, lex_Name_T, run_br, run_call, run_ret, nil_is, Bool.not_eq_true', inRange_iff, bAt_is, letter_is, r, Option.bind_some, leI_iff, nameL]
  by_cases h0 : (bs s).isEmpty = true
  · rw [if_neg (by rw [h0]; decide), h0]; rfl
  · have h0' : (bs s).isEmpty = false := Bool.eq_false_iff.2 h0
    have hp : 0 < s.size := by
      rw [hl]; cases hb : bs s with
      | nil => rw [hb] at h0; exact absurd rfl h0
      | cons => simp
    rw [if_pos h0', if_pos (by omega), h0']
    by_cases h1 : isLet ((bs s).getD 0 0) = true
    · rw [if_pos h1, h1]
      by_cases h2 : tw isInn (bs s) = (bs s).length
      · rw [if_pos (by rw [h2, hl]; simp), decide_eq_true h2]
        by_cases h3 : (bs s).length ≤ 32
        · rw [if_pos (by omega), decide_eq_true h3, word_is N s (by omega)]; rfl
        · rw [if_neg (by omega), decide_eq_false h3]; rfl
      · rw [if_neg (by simp; omega), decide_eq_false h2]; rfl
    · rw [if_neg h1, Bool.eq_false_iff.2 h1]; rfl

theorem lives_is (N : Nat) (hN : 20030 < N) : bautalaw09_lives N = some true := by
  have hw := word_is N (⟨#[102, 110]⟩ : ByteArray) (by decide)
  have hn := name_is N (⟨#[102, 120]⟩ : ByteArray) (by decide) (by have : (⟨#[102, 120]⟩ : ByteArray).size = 2 := rfl
                                                                   omega)
  have e1 : isWordL (bs (⟨#[102, 110]⟩ : ByteArray)) = true := by decide +kernel
  have e2 : nameL (bs (⟨#[102, 120]⟩ : ByteArray)) = true := by decide +kernel
  have e3 : (wds (⟨#[97, 60, 60, 60, 51, 59]⟩ : ByteArray)).2.1 = 0 := by decide +kernel
  have e4 : (wds (⟨#[97, 60, 60, 60, 51, 59]⟩ : ByteArray)).2.2.length = 5 := by decide +kernel
  have e5 : ((wds (⟨#[97, 60, 60, 60, 51, 59]⟩ : ByteArray)).2.2.getD 1 (0, (ByteArray.empty, 0))).2.1.data.toList = [60, 60, 60] := by decide +kernel
  simp only [bautalaw09_lives, bautalaw09_lives_T, run_br, run_call, run_ret, words_lex N _ hN, Option.bind_some, Lib.toList_data, inRange_iff, lex_Word, lex_Word_T, hw, hn, e1, e2, e3, e4, e5]
  rfl

theorem lexWords_is (N : Nat) (hN : 20030 < N) (s : ByteArray) : bautalaw09_LexWords N s = some true := by
  simp only [bautalaw09_LexWords, bautalaw09_LexWords_T, run_br, run_call, run_ret, words_lex N s hN, words_ref N s hN, same_is N _ (wds_len s) hN, Option.bind_some, BEq.rfl, if_true, lives_is N hN]
theorem lexWords_law (s : ByteArray) (h : WF .str s) : bautalaw09_LexWords 100002 s = some true := lexWords_is 100002 (by decide) s

/-! ### LexOrder -/
abbrev dt : Tok := (0, (ByteArray.empty, 0))
def G (s : ByteArray) (t : Tok) : Prop := ∃ a n : Nat, a + n ≤ s.size ∧ t.2.2 = (a : Int) ∧ bs t.2.1 = ((bs s).drop a).take n
def tEnd (t : Tok) : Int := t.2.2 + (t.2.1.size : Int)
structure Inv (s : ByteArray) (l : List Tok) (b : Nat) : Prop where
  each : ∀ i, i < l.length → G s (l.getD i dt) ∧ (l.getD i dt).1 ≠ 0
  rise : ∀ i, 0 < i → i < l.length → tEnd (l.getD (i - 1) dt) ≤ (l.getD i dt).2.2
  last : 0 < l.length → tEnd (l.getD (l.length - 1) dt) ≤ b
structure Fin (s : ByteArray) (l : List Tok) : Prop where
  some : 0 < l.length
  len : l.length ≤ 4001
  each : ∀ i, i < l.length → G s (l.getD i dt) ∧ ((l.getD i dt).1 = 0 ↔ i = l.length - 1)
  rise : ∀ i, 0 < i → i < l.length → tEnd (l.getD (i - 1) dt) ≤ (l.getD i dt).2.2

theorem G.size {s : ByteArray} {t : Tok} (h : G s t) : ∃ a n : Nat, a + n ≤ s.size ∧ t.2.2 = (a : Int) ∧ bs t.2.1 = ((bs s).drop a).take n ∧ t.2.1.size = n := by
  obtain ⟨a, n, h1, h2, h3⟩ := h
  refine ⟨a, n, h1, h2, h3, ?_⟩
  rw [bs_size, h3, List.length_take, List.length_drop, ← bs_size]
  omega

theorem inv_snoc {s : ByteArray} {l : List Tok} {a n b k : Nat} (h : Inv s l a) (hn : a + n ≤ s.size) (hk : 0 < k) (hb : a + n ≤ b) : Inv s (l ++ [((k : Int), (s.extract a (a + n), (a : Int)))]) b := by
  have g : G s ((k : Int), (s.extract a (a + n), (a : Int))) := ⟨a, n, hn, rfl, by rw [bs_extract, Nat.add_sub_cancel_left]⟩
  have sz : (s.extract a (a + n)).size = n := by rw [bs_size, bs_extract, List.length_take, List.length_drop, ← bs_size]; omega
  refine ⟨fun i hi => ?_, fun i h0 hi => ?_, fun _ => ?_⟩
  · rw [List.length_append, List.length_singleton] at hi
    rcases Nat.lt_or_ge i l.length with h1 | h1
    · rw [getD_left _ _ _ h1]; exact h.each i h1
    · rw [getD_last _ _ _ (by omega)]
      exact ⟨g, by show (k : Int) ≠ 0; omega⟩
  · rw [List.length_append, List.length_singleton] at hi
    rcases Nat.lt_or_ge i l.length with h1 | h1
    · rw [getD_left _ _ _ h1, getD_left _ _ _ (by omega)]; exact h.rise i h0 h1
    · have e : i = l.length := by omega
      rw [getD_last _ _ _ e, getD_left _ _ _ (by omega), e]
      exact h.last (by omega)
  · rw [List.length_append, List.length_singleton, getD_last _ _ _ (by omega)]
    show (a : Int) + ((s.extract a (a + n)).size : Int) ≤ b
    rw [sz]; omega

theorem fin_snoc {s : ByteArray} {l : List Tok} (h : Inv s l s.size) (hl : l.length ≤ 4000) : Fin s (l ++ [(0, (ByteArray.empty, (s.size : Int)))]) := by
  have g : G s (0, (ByteArray.empty, (s.size : Int))) := ⟨s.size, 0, by omega, rfl, by rw [List.take_zero]; rfl⟩
  refine ⟨by simp, by simp; omega, fun i hi => ?_, fun i h0 hi => ?_⟩
  · rw [List.length_append, List.length_singleton] at hi ⊢
    rcases Nat.lt_or_ge i l.length with h1 | h1
    · rw [getD_left _ _ _ h1]
      refine ⟨(h.each i h1).1, fun hh => absurd hh (h.each i h1).2, fun hh => by omega⟩
    · rw [getD_last _ _ _ (by omega)]
      exact ⟨g, fun _ => by omega, fun _ => rfl⟩
  · rw [List.length_append, List.length_singleton] at hi
    rcases Nat.lt_or_ge i l.length with h1 | h1
    · rw [getD_left _ _ _ h1, getD_left _ _ _ (by omega)]; exact h.rise i h0 h1
    · have e : i = l.length := by omega
      rw [getD_last _ _ _ e, getD_left _ _ _ (by omega), e]
      exact h.last (by omega)

theorem toks_ok (s : ByteArray) : ∀ (f a : Nat) (acc : List Tok), s.size - a < f → a ≤ s.size → acc.length ≤ 4000 → Inv s acc a → ((toks s f a acc).2.1 = 0 ∧ Fin s (toks s f a acc).2.2) ∨ ((toks s f a acc).2.1 ≠ 0 ∧ (toks s f a acc).2.2 = [])
  | 0, a, acc, h, _, _, _ => by omega
  | f + 1, a, acc, hf, ha, hacc, hi => by
    rw [toks]
    by_cases h : a < s.size
    · rw [if_pos h]
      have hd : ((bs s).drop a).length = s.size - a := by rw [List.length_drop, ← bs_size]
      have hne : (bs s).drop a ≠ [] := by
        intro e
        rw [e] at hd
        simp at hd
        omega
      cases hn : nxt ((bs s).drop a) with
      | none => exact .inr ⟨by show (100 : Int) ≠ 0; decide, rfl⟩
      | some kn =>
        obtain ⟨k, n⟩ := kn
        obtain ⟨q1, q2, q3⟩ := nxt_len hne hn
        rw [hd] at q2
        have hsk : skipL ((bs s).drop (a + n)) ≤ ((bs s).drop (a + n)).length := skip_le false _
        rw [List.length_drop, ← bs_size] at hsk
        simp only
        by_cases h4 : acc.length = 4000
        · rw [if_pos h4]; exact .inr ⟨by show (150 : Int) ≠ 0; decide, rfl⟩
        · rw [if_neg h4]
          exact toks_ok s f _ _ (by omega) (by omega) (by simp; omega) (inv_snoc hi (by omega) q3 (by omega))
    · rw [if_neg h]
      obtain rfl : a = s.size := by omega
      by_cases h4 : acc.length = 4000
      · rw [if_pos h4]; exact .inr ⟨by show (150 : Int) ≠ 0; decide, rfl⟩
      · rw [if_neg h4]; exact .inl ⟨rfl, fin_snoc hi hacc⟩

theorem wds_ok (s : ByteArray) : ((wds s).2.1 = 0 ∧ Fin s (wds s).2.2 ∧ s.size ≤ 20000) ∨ ((wds s).2.1 ≠ 0 ∧ (wds s).2.2 = []) := by
  unfold wds
  by_cases h : 20000 < s.size
  · rw [if_pos h]; exact .inr ⟨by show (150 : Int) ≠ 0; decide, rfl⟩
  · rw [if_neg h]
    have hsk : skipL (bs s) ≤ (bs s).length := skip_le false (bs s)
    rw [← bs_size] at hsk
    rcases toks_ok s (s.size + 1) (skipL (bs s)) [] (by omega) hsk (by simp) ⟨fun i hi => by simp at hi, fun i _ hi => by simp at hi, fun hi => by simp at hi⟩ with h1 | h1
    · exact .inl ⟨h1.1, h1.2, by omega⟩
    · exact .inr h1

theorem order_loop (N : Nat) (hN : 20030 < N) (s : ByteArray) (hs : s.size ≤ 20000) (l : List Tok) (h : Fin s l) : bautalaw09_LexOrder_l5 N s l 0 = some (.inr ()) := by
  have h4 := h.len
  refine loop_up (s := fun v => bautalaw09_LexOrder_l5_T N s l v) (fun i : Nat => (i : Int)) l.length (.inr ()) (k := 0) (m := N) (Nat.zero_le _) (by omega) (fun i _ hi => ?_) ?_
  · obtain ⟨g, hk⟩ := h.each i hi
    obtain ⟨a, n, g1, g2, g3, g4⟩ := g.size
    have c0 : (i : Int) < (l.length : Int) := by omega
    have c1 : (0 : Int) ≤ (i : Int) ∧ (i : Int) < (l.length : Int) := by omega
    have w1 : IntKind.i64.wrap ((s.size : Int) - (a : Int)) = (s.size : Int) - (a : Int) := i64_in (by omega)
    have w2 : IntKind.i64.wrap ((a : Int) + (n : Int)) = ((a + n : Nat) : Int) := by rw [i64_in (by omega)]; rfl
    have w3 : IntKind.i64.wrap ((i : Int) + 1) = ((i + 1 : Nat) : Int) := i64_succ (by omega)
    have w4 : IntKind.i64.wrap ((l.length : Int) - 1) = (l.length : Int) - 1 := i64_in (by omega)
    have c2 : ¬ (a : Int) < 0 := by omega
    have c3 : ¬ (s.size : Int) < (a : Int) := by omega
    have c4 : ¬ (s.size : Int) - (a : Int) < (n : Int) := by omega
    have c5 : (0 : Int) ≤ (a : Int) ∧ (a : Int) ≤ ((a + n : Nat) : Int) ∧ ((a + n : Nat) : Int) ≤ (s.size : Int) := by omega
    have ex : (s.extract a (a + n)).data.toList = (l.getD i dt).2.1.data.toList := by
      show bs _ = bs _
      rw [bs_extract, Nat.add_sub_cancel_left, g3]
    have kk : ((l.getD i dt).1 == 0) = ((i : Int) == (l.length : Int) - 1) := by
      rw [Bool.eq_iff_iff, beq_iff_eq, beq_iff_eq, hk]
      omega
    simp only [bautalaw09_LexOrder_l5_T, run_br, run_ret, ltI_iff, leI_iff, inRange_iff, Bool.and_eq_true, toNat_nat, if_pos c0, if_pos c1, g2, g4, w1, w2, w3, w4, if_neg c2, if_neg c3, if_neg c4, if_pos c5, Lib.toList_data, ex, BEq.rfl, Bool.not_true, Bool.false_eq_true, if_false, kk]
    by_cases h0 : 0 < i
    · have w5 : IntKind.i64.wrap ((i : Int) - 1) = ((i - 1 : Nat) : Int) := by rw [i64_in (by omega)]; omega
      have c6 : (0 : Int) ≤ ((i - 1 : Nat) : Int) ∧ ((i - 1 : Nat) : Int) < (l.length : Int) := by omega
      obtain ⟨a', n', g1', g2', g3', g4'⟩ := (h.each (i - 1) (by omega)).1.size
      have hr := h.rise i h0 hi
      simp only [tEnd, g2, g2', g4'] at hr
      have w6 : IntKind.i64.wrap ((a' : Int) + (n' : Int)) = (a' : Int) + (n' : Int) := i64_in (by omega)
      rw [if_pos (by omega)]
      simp only [w5, if_pos c6, toNat_nat, g2', g4', w6]
      rw [if_neg (by omega)]
    · rw [if_neg (by omega)]
  · simp only [bautalaw09_LexOrder_l5_T, run_br, run_ret, ltI_iff]
    rw [if_neg (by omega)]

theorem lexOrder_is (N : Nat) (hN : 20030 < N) (s : ByteArray) : bautalaw09_LexOrder N s = some true := by
  simp only [bautalaw09_LexOrder, bautalaw09_LexOrder_T, run_br, run_call, run_ret, words_lex N s hN, Option.bind_some, bne_iff_ne, ne_eq, beq_iff_eq, lives_is N hN, ltI_iff]
  rcases wds_ok s with ⟨h1, h2, h3⟩ | ⟨h1, h2⟩
  · rw [if_neg (by rw [h1]; simp), order_loop N hN s h3 _ h2, Option.bind_some, run_inr, run_br]
    rw [if_pos (by rw [ltI_iff]; have := h2.some; omega)]
    simp only [run_call, run_ret, lives_is N hN, Option.bind_some]
  · rw [if_pos h1, h2]; rfl
theorem lexOrder_law (s : ByteArray) (h : WF .str s) : bautalaw09_LexOrder 100002 s = some true := lexOrder_is 100002 (by decide) s
end Go.Proofs.YtedadodniodnaaaV
