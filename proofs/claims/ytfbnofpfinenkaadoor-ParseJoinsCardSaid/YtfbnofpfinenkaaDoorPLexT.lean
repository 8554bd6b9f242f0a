/- The plain laws LexWords and LexOrder; what Name and lives come to. -/
import Derived.Test.YtfbnofpfinenkaaDoorPLexW
namespace Go.Proofs.YtfbnofpfinenkaaDoorV
set_option linter.unusedVariables false
set_option linter.unusedSimpArgs false

/-! ### LexOrder -/
abbrev dt : Tok := (0, (ByteArray.empty, 0))
def G (s : ByteArray) (t : Tok) : Prop := ∃ a n : Nat, a + n ≤ s.size ∧ t.2.2 = (a : Int) ∧ bs t.2.1 = ((bs s).drop a).take n
def tEnd (t : Tok) : Int := t.2.2 + (t.2.1.size : Int)
structure Inv (s : ByteArray) (l : List Tok) (b : Nat) : Prop where
  each : ∀ i, i < l.length → G s (l.getD i dt) ∧ (l.getD i dt).1 ≠ 0
  rise : ∀ i, 0 < i → i < l.length → tEnd (l.getD (i - 1) dt) ≤ (l.getD i dt).2.2
  last : 0 < l.length → tEnd (l.getD (l.length - 1) dt) ≤ b
structure Fin (s : ByteArray) (l : List Tok) : Prop where
  some : 0 < l.length
  len : l.length ≤ 4001
  each : ∀ i, i < l.length → G s (l.getD i dt) ∧ ((l.getD i dt).1 = 0 ↔ i = l.length - 1)
  rise : ∀ i, 0 < i → i < l.length → tEnd (l.getD (i - 1) dt) ≤ (l.getD i dt).2.2

theorem G.size {s : ByteArray} {t : Tok} (h : G s t) : ∃ a n : Nat, a + n ≤ s.size ∧ t.2.2 = (a : Int) ∧ bs t.2.1 = ((bs s).drop a).take n ∧ t.2.1.size = n := by
  obtain ⟨a, n, h1, h2, h3⟩ := h
  refine ⟨a, n, h1, h2, h3, ?_⟩
  rw [bs_size, h3, List.length_take, List.length_drop, ← bs_size]
  omega

theorem inv_snoc {s : ByteArray} {l : List Tok} {a n b k : Nat} (h : Inv s l a) (hn : a + n ≤ s.size) (hk : 0 < k) (hb : a + n ≤ b) : Inv s (l ++ [((k : Int), (s.extract a (a + n), (a : Int)))]) b := by
  have g : G s ((k : Int), (s.extract a (a + n), (a : Int))) := ⟨a, n, hn, rfl, by rw [bs_extract, Nat.add_sub_cancel_left]⟩
  have sz : (s.extract a (a + n)).size = n := by rw [bs_size, bs_extract, List.length_take, List.length_drop, ← bs_size]; omega
  refine ⟨fun i hi => ?_, fun i h0 hi => ?_, fun _ => ?_⟩
  · rw [List.length_append, List.length_singleton] at hi
    rcases Nat.lt_or_ge i l.length with h1 | h1
    · rw [getD_left _ _ _ h1]; exact h.each i h1
    · rw [getD_last _ _ _ (by omega)]
      exact ⟨g, by show (k : Int) ≠ 0; omega⟩
  · rw [List.length_append, List.length_singleton] at hi
    rcases Nat.lt_or_ge i l.length with h1 | h1
    · rw [getD_left _ _ _ h1, getD_left _ _ _ (by omega)]; exact h.rise i h0 h1
    · have e : i = l.length := by omega
      rw [getD_last _ _ _ e, getD_left _ _ _ (by omega), e]
      exact h.last (by omega)
  · rw [List.length_append, List.length_singleton, getD_last _ _ _ (by omega)]
    show (a : Int) + ((s.extract a (a + n)).size : Int) ≤ b
    rw [sz]; omega

theorem fin_snoc {s : ByteArray} {l : List Tok} (h : Inv s l s.size) (hl : l.length ≤ 4000) : Fin s (l ++ [(0, (ByteArray.empty, (s.size : Int)))]) := by
  have g : G s (0, (ByteArray.empty, (s.size : Int))) := ⟨s.size, 0, by omega, rfl, by rw [List.take_zero]; rfl⟩
  refine ⟨by simp, by simp; omega, fun i hi => ?_, fun i h0 hi => ?_⟩
  · rw [List.length_append, List.length_singleton] at hi ⊢
    rcases Nat.lt_or_ge i l.length with h1 | h1
    · rw [getD_left _ _ _ h1]
      refine ⟨(h.each i h1).1, fun hh => absurd hh (h.each i h1).2, fun hh => by omega⟩
    · rw [getD_last _ _ _ (by omega)]
      exact ⟨g, fun _ => by omega, fun _ => rfl⟩
  · rw [List.length_append, List.length_singleton] at hi
    rcases Nat.lt_or_ge i l.length with h1 | h1
    · rw [getD_left _ _ _ h1, getD_left _ _ _ (by omega)]; exact h.rise i h0 h1
    · have e : i = l.length := by omega
      rw [getD_last _ _ _ e, getD_left _ _ _ (by omega), e]
      exact h.last (by omega)

theorem toks_ok (s : ByteArray) : ∀ (f a : Nat) (acc : List Tok), s.size - a < f → a ≤ s.size → acc.length ≤ 4000 → Inv s acc a → ((toks s f a acc).2.1 = 0 ∧ Fin s (toks s f a acc).2.2) ∨ ((toks s f a acc).2.1 ≠ 0 ∧ (toks s f a acc).2.2 = [])
  | 0, a, acc, h, _, _, _ => by omega
  | f + 1, a, acc, hf, ha, hacc, hi => by
    rw [toks]
    by_cases h : a < s.size
    · rw [if_pos h]
      have hd : ((bs s).drop a).length = s.size - a := by rw [List.length_drop, ← bs_size]
      have hne : (bs s).drop a ≠ [] := by
        intro e
        rw [e] at hd
        simp at hd
        omega
      cases hn : nxt ((bs s).drop a) with
      | none => exact .inr ⟨by show (100 : Int) ≠ 0; decide, rfl⟩
      | some kn =>
        obtain ⟨k, n⟩ := kn
        obtain ⟨q1, q2, q3⟩ := nxt_len hne hn
        rw [hd] at q2
        have hsk : skipL ((bs s).drop (a + n)) ≤ ((bs s).drop (a + n)).length := skip_le false _
        rw [List.length_drop, ← bs_size] at hsk
        simp only
        by_cases h4 : acc.length = 4000
        · rw [if_pos h4]; exact .inr ⟨by show (150 : Int) ≠ 0; decide, rfl⟩
        · rw [if_neg h4]
          exact toks_ok s f _ _ (by omega) (by omega) (by simp; omega) (inv_snoc hi (by omega) q3 (by omega))
    · rw [if_neg h]
      obtain rfl : a = s.size := by omega
      by_cases h4 : acc.length = 4000
      · rw [if_pos h4]; exact .inr ⟨by show (150 : Int) ≠ 0; decide, rfl⟩
      · rw [if_neg h4]; exact .inl ⟨rfl, fin_snoc hi hacc⟩

theorem wds_ok (s : ByteArray) : ((wds s).2.1 = 0 ∧ Fin s (wds s).2.2 ∧ s.size ≤ 20000) ∨ ((wds s).2.1 ≠ 0 ∧ (wds s).2.2 = []) := by
  unfold wds
  by_cases h : 20000 < s.size
  · rw [if_pos h]; exact .inr ⟨by show (150 : Int) ≠ 0; decide, rfl⟩
  · rw [if_neg h]
    have hsk : skipL (bs s) ≤ (bs s).length := skip_le false (bs s)
    rw [← bs_size] at hsk
    rcases toks_ok s (s.size + 1) (skipL (bs s)) [] (by omega) hsk (by simp) ⟨fun i hi => by simp at hi, fun i _ hi => by simp at hi, fun hi => by simp at hi⟩ with h1 | h1
    · exact .inl ⟨h1.1, h1.2, by omega⟩
    · exact .inr h1


theorem toks_err (s : ByteArray) : ∀ (f a : Nat) (acc : List Tok), s.size - a < f → a ≤ s.size → (toks s f a acc).2.1 ≠ 0 → 0 ≤ (toks s f a acc).1 ∧ (toks s f a acc).1 ≤ s.size ∧ ((toks s f a acc).2.1 = 100 ∨ (toks s f a acc).2.1 = 150)
  | 0, a, acc, h, _, _ => by omega
  | f + 1, a, acc, hf, ha, he => by
    rw [toks] at he ⊢
    by_cases h : a < s.size
    · rw [if_pos h] at he ⊢
      have hd : ((bs s).drop a).length = s.size - a := by rw [List.length_drop, ← bs_size]
      have hne : (bs s).drop a ≠ [] := by
        intro e
        rw [e] at hd
        simp at hd
        omega
      cases hn : nxt ((bs s).drop a) with
      | none => exact ⟨by show (0 : Int) ≤ (a : Int); omega, by show (a : Int) ≤ s.size; omega, .inl rfl⟩
      | some kn =>
        obtain ⟨k, n⟩ := kn
        obtain ⟨q1, q2, q3⟩ := nxt_len hne hn
        rw [hd] at q2
        have hsk : skipL ((bs s).drop (a + n)) ≤ ((bs s).drop (a + n)).length := skip_le false _
        rw [List.length_drop, ← bs_size] at hsk
        rw [hn] at he
        simp only at he ⊢
        by_cases h4 : acc.length = 4000
        · rw [if_pos h4]; exact ⟨by show (0 : Int) ≤ (a : Int); omega, by show (a : Int) ≤ s.size; omega, .inr rfl⟩
        · rw [if_neg h4] at he ⊢
          exact toks_err s f _ _ (by omega) (by omega) he
    · rw [if_neg h] at he ⊢
      by_cases h4 : acc.length = 4000
      · rw [if_pos h4]; exact ⟨by show (0 : Int) ≤ (a : Int); omega, by show (a : Int) ≤ s.size; omega, .inr rfl⟩
      · rw [if_neg h4] at he; exact absurd rfl he

theorem wds_err (s : ByteArray) (he : (wds s).2.1 ≠ 0) : 0 ≤ (wds s).1 ∧ (wds s).1 ≤ s.size ∧ ((wds s).2.1 = 100 ∨ (wds s).2.1 = 150) := by
  unfold wds at he ⊢
  by_cases h : 20000 < s.size
  · rw [if_pos h]; exact ⟨Int.le_refl _, by show (0 : Int) ≤ s.size; omega, .inr rfl⟩
  · rw [if_neg h] at he ⊢
    have hsk : skipL (bs s) ≤ (bs s).length := skip_le false (bs s)
    rw [← bs_size] at hsk
    exact toks_err s (s.size + 1) (skipL (bs s)) [] (by omega) hsk he
end Go.Proofs.YtfbnofpfinenkaaDoorV
