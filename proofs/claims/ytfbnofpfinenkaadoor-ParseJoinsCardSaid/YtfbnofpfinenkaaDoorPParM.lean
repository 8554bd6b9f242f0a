/- The tokens of a text with blanks put ahead of a token: the same kinds and texts. -/
import Derived.Test.YtfbnofpfinenkaaDoorPParL
namespace Go.Proofs.YtfbnofpfinenkaaDoorV
set_option linter.unusedVariables false
set_option linter.unusedSimpArgs false

/-- A token's kind and text. -/
def ks (t : Tok) : Int × List UInt8 := (t.1, bs t.2.1)

/-- What is read from a place on stands behind what was read, at that place or behind it. -/
theorem toks_tail (s : ByteArray) : ∀ (f a : Nat) (acc : List Tok), s.size - a < f → a ≤ s.size → (toks s f a acc).2.1 = 0 → ∃ tail, (toks s f a acc).2.2 = acc ++ tail ∧ ∀ t ∈ tail, (a : Int) ≤ t.2.2
  | 0, a, acc, h, _, _ => by omega
  | f + 1, a, acc, hf, ha, he => by
    rw [toks] at he ⊢
    by_cases h : a < s.size
    · rw [if_pos h] at he ⊢
      have hd : ((bs s).drop a).length = s.size - a := by rw [List.length_drop, ← bs_size]
      have hne : (bs s).drop a ≠ [] := by
        intro e
        rw [e] at hd
        simp at hd
        omega
      cases hn : nxt ((bs s).drop a) with
      | none => rw [hn] at he; exact absurd he (by show (100 : Int) ≠ 0; decide)
      | some kn =>
        obtain ⟨k, n⟩ := kn
        obtain ⟨q1, q2, q3⟩ := nxt_len hne hn
        rw [hd] at q2
        have hsk : skipL ((bs s).drop (a + n)) ≤ ((bs s).drop (a + n)).length := skip_le false _
        rw [List.length_drop, ← bs_size] at hsk
        rw [hn] at he
        simp only at he ⊢
        by_cases h4 : acc.length = 4000
        · rw [if_pos h4] at he; exact absurd he (by show (150 : Int) ≠ 0; decide)
        · rw [if_neg h4] at he ⊢
          obtain ⟨tail, h1, h2⟩ := toks_tail s f _ _ (by omega) (by omega) he
          refine ⟨_ :: tail, by rw [h1, List.append_assoc]; rfl, fun t ht => ?_⟩
          rcases List.mem_cons.1 ht with rfl | ht
          · exact Int.le_refl _
          · have := h2 t ht; omega
    · rw [if_neg h] at he ⊢
      by_cases h4 : acc.length = 4000
      · rw [if_pos h4] at he; exact absurd he (by show (150 : Int) ≠ 0; decide)
      · rw [if_neg h4]
        exact ⟨[_], rfl, fun t ht => by rw [List.mem_singleton] at ht; subst ht; exact Int.le_refl _⟩

/-- Behind the place: the same, so much further on. -/
theorem toks_behind (s s' : ByteArray) (d : Nat) (hsz : s'.size = s.size + d) : ∀ (f a : Nat) (acc acc' : List Tok), s.size - a < f → a ≤ s.size → (bs s').drop (a + d) = (bs s).drop a → acc'.map ks = acc.map ks → (toks s f a acc).2.1 = 0 →
    ∀ f', s.size - a < f' → (toks s' f' (a + d) acc').2.1 = 0 ∧ (toks s' f' (a + d) acc').2.2.map ks = (toks s f a acc).2.2.map ks
  | 0, a, acc, acc', h, _, _, _, _ => by omega
  | f + 1, a, acc, acc', hf, ha, hdr, hacc, he => by
    intro f' hf'
    obtain ⟨f'', rfl⟩ : ∃ g, f' = g + 1 := ⟨f' - 1, by omega⟩
    have hlen : acc'.length = acc.length := by simpa using congrArg List.length hacc
    rw [toks] at he ⊢
    rw [toks]
    by_cases h : a < s.size
    · rw [if_pos h] at he ⊢
      rw [if_pos (by omega), hdr]
      have hd : ((bs s).drop a).length = s.size - a := by rw [List.length_drop, ← bs_size]
      have hne : (bs s).drop a ≠ [] := by
        intro e
        rw [e] at hd
        simp at hd
        omega
      cases hn : nxt ((bs s).drop a) with
      | none => rw [hn] at he; exact absurd he (by show (100 : Int) ≠ 0; decide)
      | some kn =>
        obtain ⟨k, n⟩ := kn
        obtain ⟨q1, q2, q3⟩ := nxt_len hne hn
        rw [hd] at q2
        have hsk : skipL ((bs s).drop (a + n)) ≤ ((bs s).drop (a + n)).length := skip_le false _
        rw [List.length_drop, ← bs_size] at hsk
        rw [hn] at he
        simp only at he ⊢
        have hdr2 : ∀ j, (bs s').drop (a + d + j) = (bs s).drop (a + j) := fun j => by
          rw [← List.drop_drop, hdr, List.drop_drop]
        by_cases h4 : acc.length = 4000
        · rw [if_pos h4] at he; exact absurd he (by show (150 : Int) ≠ 0; decide)
        · rw [if_neg h4] at he ⊢
          rw [if_neg (by omega), hdr2 n]
          have e : a + d + n + skipL ((bs s).drop (a + n)) = (a + n + skipL ((bs s).drop (a + n))) + d := by omega
          rw [e]
          refine toks_behind s s' d hsz f _ _ _ (by omega) (by omega) ?_ ?_ he f'' (by omega)
          · have := hdr2 (n + skipL ((bs s).drop (a + n)))
            rw [show a + n + skipL ((bs s).drop (a + n)) + d = a + d + (n + skipL ((bs s).drop (a + n))) by omega, this]
            rw [show a + (n + skipL ((bs s).drop (a + n))) = a + n + skipL ((bs s).drop (a + n)) by omega]
          · rw [List.map_append, List.map_append, hacc]
            congr 1
            simp only [List.map_cons, List.map_nil, ks, bs_extract, Nat.add_sub_cancel_left, hdr]
    · rw [if_neg h] at he ⊢
      rw [if_neg (by omega)]
      by_cases h4 : acc.length = 4000
      · rw [if_pos h4] at he; exact absurd he (by show (150 : Int) ≠ 0; decide)
      · rw [if_neg h4, if_neg (by omega)]
        refine ⟨rfl, ?_⟩
        simp only [List.map_append, hacc, List.map_cons, List.map_nil, ks]

/-- Ahead of the place. -/
theorem toks_ahead (s s' : ByteArray) (at' : Nat) (hat : at' ≤ s.size) (hs' : bs s' = (bs s).take at' ++ (ins ++ (bs s).drop at')) : ∀ (f a : Nat) (acc acc' : List Tok), s.size - a < f → a < at' → acc'.map ks = acc.map ks → (toks s f a acc).2.1 = 0 →
    (∃ tail, (toks s f a acc).2.2 = acc ++ tail ∧ ∃ t ∈ tail, t.2.2 = (at' : Int)) →
    ∀ f', s.size + 9 - a < f' → (toks s' f' a acc').2.1 = 0 ∧ (toks s' f' a acc').2.2.map ks = (toks s f a acc).2.2.map ks
  | 0, a, acc, acc', h, _, _, _, _ => by omega
  | f + 1, a, acc, acc', hf, ha, hacc, he, hex => by
    intro f' hf'
    obtain ⟨f'', rfl⟩ : ∃ g, f' = g + 1 := ⟨f' - 1, by omega⟩
    have hlen : acc'.length = acc.length := by simpa using congrArg List.length hacc
    have hls : (bs s).length = s.size := (bs_size s).symm
    have hsz : s'.size = s.size + 9 := by
      rw [bs_size, hs']
      simp [ins, hls]
      omega
    have hsplit : ∀ j, j ≤ at' → (bs s).drop j = ((bs s).take at').drop j ++ (bs s).drop at' ∧ (bs s').drop j = ((bs s).take at').drop j ++ (ins ++ (bs s).drop at') := fun j hj => by
      have e : (bs s).drop j = ((bs s).take at' ++ (bs s).drop at').drop j := by rw [List.take_append_drop]
      have hl : j ≤ ((bs s).take at').length := by rw [List.length_take]; omega
      exact ⟨by rw [e, List.drop_append_of_le_length hl], by rw [hs', List.drop_append_of_le_length hl]⟩
    rw [toks] at he hex ⊢
    rw [toks]
    rw [if_pos (by omega)] at he hex ⊢
    rw [if_pos (by omega)]
    have hd : ((bs s).drop a).length = s.size - a := by rw [List.length_drop, hls]
    have hne : (bs s).drop a ≠ [] := by
      intro e
      rw [e] at hd
      simp at hd
      omega
    cases hn : nxt ((bs s).drop a) with
    | none => rw [hn] at he; exact absurd he (by show (100 : Int) ≠ 0; decide)
    | some kn =>
      obtain ⟨k, n⟩ := kn
      obtain ⟨q1, q2, q3⟩ := nxt_len hne hn
      rw [hd] at q2
      have hsk : skipL ((bs s).drop (a + n)) ≤ ((bs s).drop (a + n)).length := skip_le false _
      rw [List.length_drop, hls] at hsk
      rw [hn] at he hex
      simp only at he hex ⊢
      by_cases h4 : acc.length = 4000
      · rw [if_pos h4] at he; exact absurd he (by show (150 : Int) ≠ 0; decide)
      rw [if_neg h4] at he hex ⊢
      -- the next token is at the place or ahead of it
      obtain ⟨tail, e1, e2⟩ := toks_tail s f _ _ (by omega) (by omega) he
      have hnext : a + n + skipL ((bs s).drop (a + n)) ≤ at' ∧ ∃ t ∈ tail, t.2.2 = (at' : Int) := by
        obtain ⟨tail2, e3, t, e4, e5⟩ := hex
        rw [e1, List.append_assoc] at e3
        have e6 := List.append_cancel_left e3
        rw [← e6] at e4
        rcases List.mem_append.1 e4 with e4 | e4
        · rw [List.mem_singleton] at e4
          subst e4
          exfalso
          have : (a : Int) = at' := e5
          omega
        · have := e2 t e4
          exact ⟨by omega, t, e4, e5⟩
      obtain ⟨hb, t, ht, hta⟩ := hnext
      have hw : ∃ w r, ((bs s).take at').drop a = w ++ r ∧ w.length = n := by
        refine ⟨(((bs s).take at').drop a).take n, (((bs s).take at').drop a).drop n, (List.take_append_drop _ _).symm, ?_⟩
        rw [List.length_take, List.length_drop, List.length_take]
        omega
      obtain ⟨w, r, hwr, hwn⟩ := hw
      obtain ⟨d1, d2⟩ := hsplit a (by omega)
      have hn' : nxt ((bs s').drop a) = some (k, n) := by
        rw [d1, hwr, List.append_assoc] at hn
        rw [d2, hwr, List.append_assoc]
        rw [← hwn] at hn ⊢
        refine nxt_like (by intro e; rw [e] at hwn; simp at hwn; omega) hn ?_
        cases r with
        | nil => exact .inr rfl
        | cons c r => exact .inl rfl
      rw [hn']
      simp only
      rw [if_neg (by omega)]
      obtain ⟨d3, d4⟩ := hsplit (a + n) (by omega)
      have hul : (((bs s).take at').drop (a + n)).length = at' - (a + n) := by rw [List.length_drop, List.length_take]; omega
      have hacc2 : (acc' ++ [((k : Int), (s'.extract a (a + n), (a : Int)))]).map ks = (acc ++ [((k : Int), (s.extract a (a + n), (a : Int)))]).map ks := by
        rw [List.map_append, List.map_append, hacc]
        congr 1
        simp only [List.map_cons, List.map_nil, ks, bs_extract, Nat.add_sub_cancel_left, d1, d2, hwr, List.append_assoc]
        rw [List.take_left' hwn, List.take_left' hwn]
      rcases Nat.lt_or_eq_of_le hb with hlt | heq
      · -- ahead of it
        have hs1 : skipL ((bs s').drop (a + n)) = skipL ((bs s).drop (a + n)) := by
          rw [d3] at hlt ⊢
          rw [d4]
          exact skip_S1 _ false _ (by rw [hul]; show skipM false _ < _; have : skipL (((bs s).take at').drop (a + n) ++ (bs s).drop at') = skipM false (((bs s).take at').drop (a + n) ++ (bs s).drop at') := rfl; omega)
        rw [hs1]
        exact toks_ahead s s' at' hat hs' f _ _ _ (by omega) hlt hacc2 he ⟨tail, e1, t, ht, hta⟩ f'' (by omega)
      · -- at it
        have hs2 : skipL ((bs s').drop (a + n)) = at' - (a + n) + 9 := by
          rw [d4]
          have := skip_S2 ((bs s).drop at') false (((bs s).take at').drop (a + n)) (by rw [hul, ← d3]; show skipL ((bs s).drop (a + n)) = _; omega)
          rw [hul] at this
          exact this
        have e : a + n + skipL ((bs s').drop (a + n)) = (a + n + skipL ((bs s).drop (a + n))) + 9 := by rw [hs2]; omega
        rw [e]
        refine toks_behind s s' 9 hsz f _ _ _ (by omega) (by omega) ?_ hacc2 he f'' (by omega)
        rw [heq, hs', show at' + 9 = ((bs s).take at' ++ ins).length by rw [List.length_append, List.length_take]; simp [ins]; omega, ← List.append_assoc, List.drop_left]
end Go.Proofs.YtfbnofpfinenkaaDoorV
