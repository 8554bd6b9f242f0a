/- The lexer over a text with blanks put ahead of a token. -/
import Derived.Test.YtfbnofpfinenkaaDoorPParB
namespace Go.Proofs.YtfbnofpfinenkaaDoorV
set_option linter.unusedVariables false
set_option linter.unusedSimpArgs false

def ins : List UInt8 := [10, 9, 32, 47, 47, 32, 120, 10, 32]

theorem skip_ins (b : Bool) (v : List UInt8) (h : skipM b v = 0) : skipM b (ins ++ v) = 9 := by
  have h0 : skipM false v = 0 := by
    cases b
    · exact h
    · cases v with
      | nil => rfl
      | cons c r => rw [skipM_t] at h; split at h <;> omega
  have e : skipM b (ins ++ v) = skipM false (9 :: 32 :: 47 :: 47 :: 32 :: 120 :: 10 :: 32 :: v) + 1 := by
    cases b <;> rfl
  rw [e]
  have e2 : skipM false (9 :: 32 :: 47 :: 47 :: 32 :: 120 :: 10 :: 32 :: v) = skipM false v + 8 := rfl
  rw [e2, h0]

/-- Blanks end ahead of the place: as before. -/
theorem skip_S1 (v : List UInt8) : ∀ (b : Bool) (u : List UInt8), skipM b (u ++ v) < u.length → skipM b (u ++ (ins ++ v)) = skipM b (u ++ v)
  | b, [], h => by simp at h
  | true, c :: u, h => by
    simp only [List.cons_append, skipM_t, List.length_cons] at h ⊢
    by_cases hc : c.toNat = 10
    · rw [if_pos hc] at h ⊢
      rw [if_pos hc, skip_S1 v false u (by omega)]
    · rw [if_neg hc] at h ⊢
      rw [if_neg hc, skip_S1 v true u (by omega)]
  | false, c :: u, h => by
    simp only [List.cons_append, skipM_f, List.length_cons] at h ⊢
    by_cases hw : isWs c = true
    · rw [if_pos hw] at h ⊢
      rw [if_pos hw, skip_S1 v false u (by omega)]
    · rw [if_neg hw] at h ⊢
      rw [if_neg hw]
      cases u with
      | nil =>
        have hn : ¬ (c.toNat = 47 ∧ ((([] : List UInt8) ++ (ins ++ v)).getD 0 0).toNat = 47) := by
          rintro ⟨_, h2⟩
          simp [ins] at h2
        rw [if_neg hn]
        split at h
        · simp at h
        · rename_i h3
          rw [if_neg h3]
      | cons d u =>
        have e : ∀ r : List UInt8, ((d :: u) ++ r).getD 0 0 = d := fun r => rfl
        rw [e] at h ⊢
        rw [e]
        by_cases h2 : c.toNat = 47 ∧ d.toNat = 47
        · rw [if_pos h2] at h ⊢
          rw [if_pos h2, skip_S1 v true (d :: u) (by simp at h ⊢; omega)]
        · rw [if_neg h2, if_neg h2]

/-- Blanks end at the place. -/
theorem skip_S2 (v : List UInt8) : ∀ (b : Bool) (u : List UInt8), skipM b (u ++ v) = u.length → skipM b (u ++ (ins ++ v)) = u.length + 9
  | b, [], h => by
    rw [List.nil_append] at h ⊢
    rw [skip_ins b v h]; rfl
  | true, c :: u, h => by
    simp only [List.cons_append, skipM_t, List.length_cons] at h ⊢
    by_cases hc : c.toNat = 10
    · rw [if_pos hc] at h ⊢
      rw [skip_S2 v false u (by omega)]
      try omega
    · rw [if_neg hc] at h ⊢
      rw [skip_S2 v true u (by omega)]
      try omega
  | false, c :: u, h => by
    simp only [List.cons_append, skipM_f, List.length_cons] at h ⊢
    by_cases hw : isWs c = true
    · rw [if_pos hw] at h ⊢
      rw [skip_S2 v false u (by omega)]
      try omega
    · rw [if_neg hw] at h ⊢
      cases u with
      | nil =>
        exfalso
        split at h
        · rename_i h2
          have h3 : skipM true v = 0 := by simpa using h
          cases v with
          | nil => simp at h2
          | cons x v => rw [skipM_t] at h3; split at h3 <;> omega
        · simp at h
      | cons d u =>
        have e : ∀ r : List UInt8, ((d :: u) ++ r).getD 0 0 = d := fun r => rfl
        rw [e] at h ⊢
        by_cases h2 : c.toNat = 47 ∧ d.toNat = 47
        · rw [if_pos h2] at h ⊢
          rw [skip_S2 v true (d :: u) (by simp at h ⊢; omega)]
          try simp
        · rw [if_neg h2] at h; simp at h

theorem tw_split (p : UInt8 → Bool) : ∀ (w r : List UInt8), tw p (w ++ r) = w.length → (∀ c ∈ w, p c = true) ∧ tw p r = 0
  | [], r, h => ⟨fun c hc => (by cases hc), by simpa using h⟩
  | c :: w, r, h => by
    rw [List.cons_append, tw] at h
    split at h
    · rename_i hc
      obtain ⟨h1, h2⟩ := tw_split p w r (by simp at h; omega)
      exact ⟨fun d hd => (List.mem_cons.1 hd).elim (fun e => e ▸ hc) (h1 d), h2⟩
    · simp at h
theorem tw_join (p : UInt8 → Bool) : ∀ (w r : List UInt8), (∀ c ∈ w, p c = true) → tw p r = 0 → tw p (w ++ r) = w.length
  | [], r, _, h => by simpa using h
  | c :: w, r, h, h0 => by
    rw [List.cons_append, tw, if_pos (h c (by simp)), tw_join p w r (fun d hd => h d (by simp [hd])) h0]
    simp

/-- What follows begins alike, or with a new line. -/
def Like (r r' : List UInt8) : Prop := r'.head? = r.head? ∨ r'.head? = some 10

theorem tw_like {p : UInt8 → Bool} (h10 : p 10 = false) {r r' : List UInt8} (h : Like r r') (h0 : tw p r = 0) : tw p r' = 0 := by
  cases r' with
  | nil => rfl
  | cons c r' =>
    rw [tw, if_neg]
    intro hc
    rcases h with h | h
    · cases r with
      | nil => simp at h
      | cons d r =>
        simp only [List.head?_cons, Option.some.injEq] at h
        subst h
        rw [tw, if_pos hc] at h0
        omega
    · simp only [List.head?_cons, Option.some.injEq] at h
      subst h
      rw [h10] at hc; cases hc

theorem nxt_like {w r r' : List UInt8} (hw : w ≠ []) {k : Nat} (h : nxt (w ++ r) = some (k, w.length)) (hl : Like r r') : nxt (w ++ r') = some (k, w.length) := by
  obtain ⟨c, x, rfl⟩ : ∃ c x, w = c :: x := by cases w with
    | nil => exact absurd rfl hw
    | cons c x => exact ⟨c, x, rfl⟩
  have h0 : ∀ r : List UInt8, ((c :: x) ++ r).getD 0 0 = c := fun r => rfl
  unfold nxt at h ⊢
  simp only [h0] at h ⊢
  by_cases hc : isLet c = true
  · rw [if_pos hc] at h ⊢
    have hn : tw isInn ((c :: x) ++ r) = (c :: x).length := by
      split at h
      · exact (Prod.mk.inj (Option.some.inj h)).2
      · split at h
        · cases h
        · exact (Prod.mk.inj (Option.some.inj h)).2
    obtain ⟨a1, a2⟩ := tw_split _ _ _ hn
    have htw := tw_join isInn (c :: x) r' a1 (tw_like (by decide) hl a2)
    rw [hn, List.take_left'] at h
    · rw [htw, List.take_left' rfl]; exact h
    · rfl
  · rw [if_neg hc] at h ⊢
    by_cases hd : isDig c = true
    · rw [if_pos hd] at h ⊢
      have hn : tw isAln ((c :: x) ++ r) = (c :: x).length := (Prod.mk.inj (Option.some.inj h)).2
      obtain ⟨a1, a2⟩ := tw_split _ _ _ hn
      rw [tw_join isAln (c :: x) r' a1 (tw_like (by decide) hl a2)]
      rw [← (Prod.mk.inj (Option.some.inj h)).1]
    · rw [if_neg hd] at h ⊢
      have pr : ∀ (q : List UInt8), q.length = (c :: x).length → q.isPrefixOf ((c :: x) ++ r) = true → q = c :: x := by
        intro q hq hp
        rw [pre_take, hq, List.take_left' rfl] at hp
        have h4 : c :: x = q := by simpa using hp
        exact h4.symm
      by_cases h3 : ([60, 60, 60] : List UInt8).isPrefixOf ((c :: x) ++ r) = true
      · rw [if_pos h3] at h
        have hlen : (c :: x).length = 3 := (Prod.mk.inj (Option.some.inj h)).2.symm
        have e := pr _ (by simpa using hlen.symm) h3
        rw [← e, if_pos (by simp [List.isPrefixOf])]
        rw [← e] at h
        exact h
      · rw [if_neg h3] at h
        by_cases h2 : ([60, 60] : List UInt8).isPrefixOf ((c :: x) ++ r) = true ∨ ([62, 62] : List UInt8).isPrefixOf ((c :: x) ++ r) = true ∨ ([46, 46] : List UInt8).isPrefixOf ((c :: x) ++ r) = true
        · rw [if_pos h2] at h
          have hlen : (c :: x).length = 2 := (Prod.mk.inj (Option.some.inj h)).2.symm
          have hx : (c :: x) = [60, 60] ∨ (c :: x) = [62, 62] ∨ (c :: x) = [46, 46] := by
            rcases h2 with h2 | h2 | h2
            · exact .inl (pr _ (by simpa using hlen.symm) h2).symm
            · exact .inr (.inl (pr _ (by simpa using hlen.symm) h2).symm)
            · exact .inr (.inr (pr _ (by simpa using hlen.symm) h2).symm)
          have n3 : ¬ ([60, 60, 60] : List UInt8).isPrefixOf ((c :: x) ++ r') = true := by
            intro hp
            rcases hx with e | e | e <;> rw [e] at hp h3
            · cases r' with
              | nil => simp [List.isPrefixOf] at hp
              | cons d r' =>
                have hd : d = 60 := by
                  have h4 := hp
                  simp [List.isPrefixOf] at h4
                  exact h4.symm
                rcases hl with hl | hl
                · cases r with
                  | nil => simp at hl
                  | cons f r =>
                    simp only [List.head?_cons, Option.some.injEq] at hl
                    exact h3 (by subst hl; rw [hd]; simp [List.isPrefixOf])
                · simp only [List.head?_cons, Option.some.injEq] at hl
                  rw [hd] at hl; exact absurd hl (by decide)
            · simp [List.isPrefixOf] at hp
            · simp [List.isPrefixOf] at hp
          rw [if_neg n3]
          rw [if_pos (by rcases hx with e | e | e <;> rw [e] <;> simp [List.isPrefixOf])]
          exact h
        · rw [if_neg h2] at h
          split at h
          · rename_i hs
            have hlen : (c :: x).length = 1 := (Prod.mk.inj (Option.some.inj h)).2.symm
            obtain rfl : x = [] := by simpa using hlen
            have c60 : c ≠ 60 := by rintro rfl; revert hs; decide
            have c62 : c ≠ 62 := by rintro rfl; revert hs; decide
            have c46 : c ≠ 46 := by rintro rfl; revert hs; decide
            rw [if_neg (by simp [List.isPrefixOf, Ne.symm c60]), if_neg (by simp [List.isPrefixOf, Ne.symm c60, Ne.symm c62, Ne.symm c46]), if_pos hs]
            exact h
          · cases h
end Go.Proofs.YtfbnofpfinenkaaDoorV
