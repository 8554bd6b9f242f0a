/- The tokens of two texts, one behind the other. -/
import Derived.Test.YtfbnofpfinenkaaDoorPParN
namespace Go.Proofs.YtfbnofpfinenkaaDoorV
set_option linter.unusedVariables false
set_option linter.unusedSimpArgs false

theorem skip_J1 (v : List UInt8) : ∀ (b : Bool) (u : List UInt8), skipM b u < u.length → skipM b (u ++ 10 :: v) = skipM b u
  | b, [], h => by simp at h
  | true, c :: u, h => by
    simp only [List.cons_append, skipM_t, List.length_cons] at h ⊢
    by_cases hc : c.toNat = 10
    · rw [if_pos hc] at h ⊢
      rw [if_pos hc, skip_J1 v false u (by omega)]
    · rw [if_neg hc] at h ⊢
      rw [if_neg hc, skip_J1 v true u (by omega)]
  | false, c :: u, h => by
    simp only [List.cons_append, skipM_f, List.length_cons] at h ⊢
    by_cases hw : isWs c = true
    · rw [if_pos hw] at h ⊢
      rw [if_pos hw, skip_J1 v false u (by omega)]
    · rw [if_neg hw] at h ⊢
      rw [if_neg hw]
      cases u with
      | nil =>
        have hn : ¬ (c.toNat = 47 ∧ ((([] : List UInt8) ++ 10 :: v).getD 0 0).toNat = 47) := by
          rintro ⟨_, h2⟩
          simp at h2
        rw [if_neg hn, if_neg (by simp)]
      | cons d u =>
        have e : ((d :: u) ++ 10 :: v).getD 0 0 = d := rfl
        have e' : (d :: u).getD 0 0 = d := rfl
        rw [e'] at h ⊢
        rw [e]
        by_cases h2 : c.toNat = 47 ∧ d.toNat = 47
        · rw [if_pos h2] at h ⊢
          rw [if_pos h2, skip_J1 v true (d :: u) (by simp at h ⊢; omega)]
        · rw [if_neg h2, if_neg h2]

theorem skip_J2 (v : List UInt8) : ∀ (b : Bool) (u : List UInt8), skipM b u = u.length → skipM b (u ++ 10 :: v) = u.length + 1 + skipM false v
  | b, [], h => by
    rw [List.nil_append]
    cases b
    · rw [skipM_f, if_pos (by decide)]; simp; omega
    · rw [skipM_t, if_pos (by decide)]; simp; omega
  | true, c :: u, h => by
    simp only [List.cons_append, skipM_t, List.length_cons] at h ⊢
    by_cases hc : c.toNat = 10
    · rw [if_pos hc] at h ⊢
      rw [skip_J2 v false u (by omega)]; omega
    · rw [if_neg hc] at h ⊢
      rw [skip_J2 v true u (by omega)]; omega
  | false, c :: u, h => by
    simp only [List.cons_append, skipM_f, List.length_cons] at h ⊢
    by_cases hw : isWs c = true
    · rw [if_pos hw] at h ⊢
      rw [skip_J2 v false u (by omega)]; omega
    · rw [if_neg hw] at h ⊢
      cases u with
      | nil =>
        exfalso
        rw [if_neg (by simp)] at h
        simp at h
      | cons d u =>
        have e : ((d :: u) ++ 10 :: v).getD 0 0 = d := rfl
        have e' : (d :: u).getD 0 0 = d := rfl
        rw [e'] at h
        rw [e]
        by_cases h2 : c.toNat = 47 ∧ d.toNat = 47
        · rw [if_pos h2] at h ⊢
          rw [skip_J2 v true (d :: u) (by simp at h ⊢; omega)]
          simp; omega
        · rw [if_neg h2] at h; simp at h

/-- Behind the place, behind other tokens: the same, or too many. -/
theorem toks_shift (s s' : ByteArray) (d : Nat) (hsz : s'.size = s.size + d) (pre : List (Int × List UInt8)) : ∀ (f a : Nat) (acc acc' : List Tok), s.size - a < f → a ≤ s.size → (bs s').drop (a + d) = (bs s).drop a → acc'.map ks = pre ++ acc.map ks → acc'.length ≤ 4000 → (toks s f a acc).2.1 = 0 →
    ∀ f', s.size - a < f' → (toks s' f' (a + d) acc').2.1 = 150 ∨ ((toks s' f' (a + d) acc').2.1 = 0 ∧ (toks s' f' (a + d) acc').2.2.map ks = pre ++ (toks s f a acc).2.2.map ks)
  | 0, a, acc, acc', h, _, _, _, _, _ => by omega
  | f + 1, a, acc, acc', hf, ha, hdr, hacc, hl4, he => by
    intro f' hf'
    obtain ⟨f'', rfl⟩ : ∃ g, f' = g + 1 := ⟨f' - 1, by omega⟩
    rw [toks] at he ⊢
    rw [toks]
    by_cases h4' : acc'.length = 4000
    · left
      by_cases h : a < s.size
      · rw [if_pos h] at he
        rw [if_pos (by omega), hdr]
        cases hn : nxt ((bs s).drop a) with
        | none => rw [hn] at he; exact absurd he (by show (100 : Int) ≠ 0; decide)
        | some kn => simp only; rw [if_pos h4']
      · rw [if_neg (by omega), if_pos h4']
    by_cases h : a < s.size
    · rw [if_pos h] at he ⊢
      rw [if_pos (by omega), hdr]
      have hd : ((bs s).drop a).length = s.size - a := by rw [List.length_drop, ← bs_size]
      have hne : (bs s).drop a ≠ [] := by
        intro e
        rw [e] at hd
        simp at hd
        omega
      cases hn : nxt ((bs s).drop a) with
      | none => rw [hn] at he; exact absurd he (by show (100 : Int) ≠ 0; decide)
      | some kn =>
        obtain ⟨k, n⟩ := kn
        obtain ⟨q1, q2, q3⟩ := nxt_len hne hn
        rw [hd] at q2
        have hsk : skipL ((bs s).drop (a + n)) ≤ ((bs s).drop (a + n)).length := skip_le false _
        rw [List.length_drop, ← bs_size] at hsk
        rw [hn] at he
        simp only at he ⊢
        have hdr2 : ∀ j, (bs s').drop (a + d + j) = (bs s).drop (a + j) := fun j => by
          rw [← List.drop_drop, hdr, List.drop_drop]
        by_cases h4 : acc.length = 4000
        · rw [if_pos h4] at he; exact absurd he (by show (150 : Int) ≠ 0; decide)
        · rw [if_neg h4] at he ⊢
          rw [if_neg h4', hdr2 n]
          have e : a + d + n + skipL ((bs s).drop (a + n)) = (a + n + skipL ((bs s).drop (a + n))) + d := by omega
          rw [e]
          refine toks_shift s s' d hsz pre f _ _ _ (by omega) (by omega) ?_ ?_ (by simp; omega) he f'' (by omega)
          · have := hdr2 (n + skipL ((bs s).drop (a + n)))
            rw [show a + n + skipL ((bs s).drop (a + n)) + d = a + d + (n + skipL ((bs s).drop (a + n))) by omega, this]
            rw [show a + (n + skipL ((bs s).drop (a + n))) = a + n + skipL ((bs s).drop (a + n)) by omega]
          · rw [List.map_append, List.map_append, hacc, List.append_assoc]
            congr 2
            simp only [List.map_cons, List.map_nil, ks, bs_extract, Nat.add_sub_cancel_left, hdr]
    · rw [if_neg h] at he ⊢
      rw [if_neg (by omega), if_neg h4']
      by_cases h4 : acc.length = 4000
      · rw [if_pos h4] at he; exact absurd he (by show (150 : Int) ≠ 0; decide)
      · right
        rw [if_neg h4]
        refine ⟨rfl, ?_⟩
        simp only [List.map_append, hacc, List.map_cons, List.map_nil, ks, List.append_assoc]

/-- The first text's, then the other's; or too many. -/
def Joined (s t : ByteArray) (L : List Tok) (r : Int × Int × List Tok) : Prop := r.2.1 = 150 ∨ (r.2.1 = 0 ∧ ∃ l, L.map ks = l ++ [(0, [])] ∧ r.2.2.map ks = l ++ (wds t).2.2.map ks)

theorem toks_join (s t s' : ByteArray) (hs' : bs s' = bs s ++ 10 :: bs t) (htz : t.size ≤ 20000) (h0 : (wds t).2.1 = 0) : ∀ (f a : Nat) (acc acc' : List Tok), s.size - a < f → a ≤ s.size → acc.length ≤ 4000 → acc'.map ks = acc.map ks → (toks s f a acc).2.1 = 0 →
    ∀ f', s'.size - a < f' → Joined s t (toks s f a acc).2.2 (toks s' f' (if a = s.size then s.size + 1 + skipL (bs t) else a) acc')
  | 0, a, acc, acc', h, _, _, _, _ => by omega
  | f + 1, a, acc, acc', hf, ha, h44, hacc, he => by
    intro f' hf'
    obtain ⟨f'', rfl⟩ : ∃ g, f' = g + 1 := ⟨f' - 1, by omega⟩
    have hlen : acc'.length = acc.length := by simpa using congrArg List.length hacc
    have hls : (bs s).length = s.size := (bs_size s).symm
    have hlt : (bs t).length = t.size := (bs_size t).symm
    have hsz : s'.size = t.size + (s.size + 1) := by
      rw [bs_size, hs']
      simp [hls, hlt]
      omega
    have hskt : skipL (bs t) ≤ (bs t).length := skip_le false _
    rw [hlt] at hskt
    rw [toks] at he ⊢
    by_cases h : a < s.size
    · rw [if_pos h] at he ⊢
      rw [if_neg (by omega), toks, if_pos (by omega)]
      have hd : ((bs s).drop a).length = s.size - a := by rw [List.length_drop, hls]
      have hne : (bs s).drop a ≠ [] := by
        intro e
        rw [e] at hd
        simp at hd
        omega
      cases hn : nxt ((bs s).drop a) with
      | none => rw [hn] at he; exact absurd he (by show (100 : Int) ≠ 0; decide)
      | some kn =>
        obtain ⟨k, n⟩ := kn
        obtain ⟨q1, q2, q3⟩ := nxt_len hne hn
        rw [hd] at q2
        have hsk : skipL ((bs s).drop (a + n)) ≤ ((bs s).drop (a + n)).length := skip_le false _
        rw [List.length_drop, hls] at hsk
        rw [hn] at he
        simp only at he ⊢
        have hdr : ∀ j, j ≤ s.size → (bs s').drop j = (bs s).drop j ++ 10 :: bs t := fun j hj => by
          rw [hs', List.drop_append_of_le_length (by omega)]
        have hn' : nxt ((bs s').drop a) = some (k, n) := by
          rw [hdr a (by omega)]
          have e : (bs s).drop a = ((bs s).drop a).take n ++ ((bs s).drop a).drop n := (List.take_append_drop _ _).symm
          have el : (((bs s).drop a).take n).length = n := by rw [List.length_take, hd]; omega
          rw [e] at hn ⊢
          rw [List.append_assoc]
          generalize ((bs s).drop a).take n = w at hn el ⊢
          generalize ((bs s).drop a).drop n = r at hn ⊢
          subst el
          refine nxt_like (by intro e; rw [e] at q1; simp at q1) hn ?_
          cases r with
          | nil => exact .inr rfl
          | cons c r => exact .inl rfl
        rw [hn']
        simp only
        by_cases h4 : acc.length = 4000
        · rw [if_pos h4] at he; exact absurd he (by show (150 : Int) ≠ 0; decide)
        rw [if_neg h4] at he ⊢
        rw [if_neg (by omega)]
        have hacc2 : (acc' ++ [((k : Int), (s'.extract a (a + n), (a : Int)))]).map ks = (acc ++ [((k : Int), (s.extract a (a + n), (a : Int)))]).map ks := by
          rw [List.map_append, List.map_append, hacc]
          congr 1
          simp only [List.map_cons, List.map_nil, ks, bs_extract, Nat.add_sub_cancel_left, hdr a (by omega)]
          rw [List.take_append_of_le_length (by rw [hd]; omega)]
        have ih := toks_join s t s' hs' htz h0 f (a + n + skipL ((bs s).drop (a + n))) _ _ (by omega) (by omega) (by simp; omega) hacc2 he f'' (by omega)
        have hdl : ((bs s).drop (a + n)).length = s.size - (a + n) := by rw [List.length_drop, hls]
        have epos : a + n + skipL ((bs s').drop (a + n)) = if a + n + skipL ((bs s).drop (a + n)) = s.size then s.size + 1 + skipL (bs t) else a + n + skipL ((bs s).drop (a + n)) := by
          rw [hdr (a + n) (by omega)]
          split
          · rename_i hh
            have := skip_J2 (bs t) false ((bs s).drop (a + n)) (by rw [hdl]; show skipL ((bs s).drop (a + n)) = _; omega)
            show a + n + skipM false _ = _
            rw [this, hdl]
            show _ = s.size + 1 + skipM false (bs t)
            omega
          · rename_i hh
            have := skip_J1 (bs t) false ((bs s).drop (a + n)) (by rw [hdl]; show skipL ((bs s).drop (a + n)) < _; omega)
            show a + n + skipM false _ = _
            rw [this]
        rw [epos]
        exact ih
    · rw [if_neg h] at he ⊢
      have hea : a = s.size := by omega
      rw [if_pos hea]
      by_cases h4 : acc.length = 4000
      · rw [if_pos h4] at he; exact absurd he (by show (150 : Int) ≠ 0; decide)
      rw [if_neg h4]
      have hw : wds t = toks t (t.size + 1) (skipL (bs t)) [] := by
        unfold wds; rw [if_neg (by omega)]
      have := toks_shift t s' (s.size + 1) hsz (acc.map ks) (t.size + 1) (skipL (bs t)) [] acc' (by omega) hskt (by
        rw [hs', show skipL (bs t) + (s.size + 1) = (bs s).length + (1 + skipL (bs t)) by omega, ← List.drop_drop, List.drop_left, Nat.add_comm 1, List.drop_succ_cons]) (by rw [hacc]; simp) (by omega) (by rw [← hw]; exact h0) (f'' + 1) (by omega)
      rw [show skipL (bs t) + (s.size + 1) = s.size + 1 + skipL (bs t) by omega] at this
      rcases this with h5 | ⟨h5, h6⟩
      · exact .inl h5
      · exact .inr ⟨h5, acc.map ks, by simp [ks], by rw [hw]; exact h6⟩
end Go.Proofs.YtfbnofpfinenkaaDoorV
