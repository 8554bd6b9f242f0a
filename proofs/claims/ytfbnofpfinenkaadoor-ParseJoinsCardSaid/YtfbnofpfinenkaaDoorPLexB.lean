/- Words and tokens: what lex's next, and the reference's step, come to. -/
import Derived.Test.YtfbnofpfinenkaaDoorPLexA
import Derived.Lib.IndexAny
import Derived.Lib.IndexBytes
namespace Go.Proofs.YtfbnofpfinenkaaDoorV
set_option linter.unusedVariables false
set_option linter.unusedSimpArgs false

def wL : List UInt8 := [32, 115, 101, 99, 114, 101, 116, 32, 112, 117, 98, 108, 105, 99, 32, 111, 117, 116, 32, 115, 104, 111, 119, 32, 102, 111, 114, 32, 105, 110, 32, 102, 110, 32]
def w7 : List (List UInt8) := [[115, 101, 99, 114, 101, 116], [112, 117, 98, 108, 105, 99], [111, 117, 116], [115, 104, 111, 119], [102, 111, 114], [105, 110], [102, 110]]
def isWordL (l : List UInt8) : Bool := w7.contains l
def sgn : List UInt8 := [61, 59, 44, 40, 41, 123, 125, 43, 45, 38, 124, 94, 126]

theorem wL_at : ∀ i, i < 35 → ((wL.drop i).head? = some 32 → ((wL.drop i).tail.takeWhile (· != 32)) = [] ∨ isWordL ((wL.drop i).tail.takeWhile (· != 32)) = true) := by decide +kernel
theorem tail_is : ∀ (l : List UInt8) (r : List UInt8), (32 : UInt8) ∉ l → (l ++ 32 :: r).takeWhile (· != 32) = l
  | [], r, _ => by simp [List.takeWhile]
  | c :: l, r, h => by
    have h1 : (c != 32) = true := by simp only [bne_iff_ne, ne_eq]; intro e; exact h (by simp [e])
    rw [List.cons_append, List.takeWhile_cons, if_pos h1, tail_is l r (fun hh => h (by simp [hh]))]
theorem words_is {l : List UInt8} (h0 : l ≠ []) (h : (32 : UInt8) ∉ l) : Lib.contains wL (([32] ++ l) ++ [32]) = isWordL l := by
  rw [Bool.eq_iff_iff]
  constructor
  · intro hc
    have hi : 0 ≤ Lib.index wL (([32] ++ l) ++ [32]) := of_decide_eq_true hc
    rcases Lib.index_spec wL (([32] ++ l) ++ [32]) with ⟨e, _⟩ | ⟨i, e, hle, ho, _⟩
    · rw [e] at hi; exact absurd hi (by decide)
    · unfold Lib.occAt at ho
      obtain ⟨r, hr⟩ := List.isPrefixOf_iff_prefix.1 ho
      have hr' : wL.drop i = 32 :: (l ++ 32 :: r) := by rw [← hr]; simp
      have := wL_at i (by have : wL.length = 34 := by decide
                          omega) (by rw [hr']; rfl)
      rw [hr', List.tail_cons, tail_is l r h] at this
      rcases this with h1 | h1
      · exact absurd h1 h0
      · exact h1
  · intro hw
    have hm : l ∈ w7 := by simpa [isWordL] using hw
    have : ∀ l ∈ w7, Lib.contains wL (([32] ++ l) ++ [32]) = true := by decide +kernel
    exact this l hm
theorem word_nil : isWordL [] = false := by decide
theorem word_free : ∀ {l : List UInt8}, isWordL l = true → (32 : UInt8) ∉ l := by
  intro l hw
  have hm : l ∈ w7 := by simpa [isWordL] using hw
  have : ∀ l ∈ w7, (32 : UInt8) ∉ l := by decide +kernel
  exact this l hm

theorem nil_is (s : ByteArray) : (s.toList == ByteArray.empty.toList) = (bs s).isEmpty := by
  rw [Lib.toList_data, Lib.toList_data, show ByteArray.empty.data.toList = [] from rfl]
  show (bs s == []) = _
  cases bs s <;> rfl
theorem blank_in (N : Nat) (s : ByteArray) : strings_Contains N s (⟨#[32]⟩ : ByteArray) = some ((bs s).contains 32) := by
  rw [strings_Contains, if_pos (.inr rfl), Lib.contains_iff_indexByte]
  rw [show (⟨#[32]⟩ : ByteArray).data.toList = [32] from rfl, Lib.contains, Lib.index_one]
theorem word_is (N : Nat) (s : ByteArray) (hs : s.size ≤ 4611686018427387904) : lex_isWord N s = some (isWordL (bs s)) := by
  have hb := blank_in N s
  have h1 : ((⟨#[32]⟩ : ByteArray).size : Int) = 1 := rfl
  simp only [lex_isWord, lex_isWord_T, run_br, run_call, run_ret, nil_is, hb, Option.bind_some, Bool.not_eq_true', leI_iff, h1]
  by_cases h0 : bs s = []
  · rw [h0]; simp [word_nil]
  · rw [if_pos (by simpa using h0)]
    by_cases hc : (32 : UInt8) ∈ bs s
    · rw [if_neg (by simpa using hc)]
      cases hw : isWordL (bs s) with
      | false => rfl
      | true => exact absurd hc (word_free hw)
    · rw [if_pos (by simpa using hc), if_pos (by omega)]
      have e : (((⟨#[32]⟩ : ByteArray) ++ s).size) = 1 + s.size := by rw [bs_size, bs_append, List.length_append, ← bs_size, ← bs_size]; rfl
      rw [if_pos (by rw [e]; omega)]
      have hw := words_is h0 hc
      rw [strings_Contains, if_pos (.inl (by decide)), Option.bind_some]
      rw [show ((⟨#[32]⟩ : ByteArray) ++ s ++ (⟨#[32]⟩ : ByteArray)).data.toList = ([32] ++ bs s) ++ [32] from by
        have := bs_append ((⟨#[32]⟩ : ByteArray) ++ s) (⟨#[32]⟩ : ByteArray)
        rw [bs_append] at this
        exact this]
      rw [show ((⟨#[32, 115, 101, 99, 114, 101, 116, 32, 112, 117, 98, 108, 105, 99, 32, 111, 117, 116, 32, 115, 104, 111, 119, 32, 102, 111, 114, 32, 105, 110, 32, 102, 110, 32]⟩ : ByteArray).data.toList) = wL from rfl, hw]

/-! ### Tokens -/
/-- The token at the beginning: its kind, its length. -/
def nxt (l : List UInt8) : Option (Nat × Nat) :=
  let c := l.getD 0 0
  if isLet c = true then
    if isWordL (l.take (tw isInn l)) = true then some (3, tw isInn l) else if 32 < tw isInn l then none else some (1, tw isInn l)
  else if isDig c = true then some (2, tw isAln l)
  else if ([60, 60, 60] : List UInt8).isPrefixOf l = true then some (4, 3)
  else if ([60, 60] : List UInt8).isPrefixOf l = true ∨ ([62, 62] : List UInt8).isPrefixOf l = true ∨ ([46, 46] : List UInt8).isPrefixOf l = true then some (4, 2)
  else if sgn.contains c = true then some (4, 1) else none
def knR : Option (Nat × Nat) → Int × Int
  | none => (0, -1)
  | some (k, n) => (k, n)

theorem pre_le {p l : List UInt8} (h : p.isPrefixOf l = true) : p.length ≤ l.length := (List.isPrefixOf_iff_prefix.1 h).length_le
theorem nxt_len {l : List UInt8} (hl : l ≠ []) {k n : Nat} (h : nxt l = some (k, n)) : 0 < n ∧ n ≤ l.length ∧ 0 < k := by
  have h1 := tw_le isInn l
  have h2 := tw_le isAln l
  have hpos : 0 < l.length := List.length_pos_iff.2 hl
  obtain ⟨c, r, rfl⟩ : ∃ c r, l = c :: r := by cases l with
    | nil => exact absurd rfl hl
    | cons c r => exact ⟨c, r, rfl⟩
  simp only [nxt, List.getD_cons_zero] at h
  by_cases hc : isLet c = true
  · have hp : 0 < tw isInn (c :: r) := by rw [tw, if_pos (by simp [isInn, hc])]; omega
    rw [if_pos hc] at h
    split at h
    · cases h; omega
    · split at h <;> cases h; omega
  · rw [if_neg hc] at h
    by_cases hd : isDig c = true
    · have hp : 0 < tw isAln (c :: r) := by rw [tw, if_pos (by simp [isAln, hd])]; omega
      rw [if_pos hd] at h
      cases h; omega
    · rw [if_neg hd] at h
      split at h
      · rename_i hh; have := pre_le hh; cases h; simp at this ⊢; omega
      · split at h
        · rename_i hh
          have : 2 ≤ (c :: r).length := by rcases hh with hh | hh | hh <;> exact pre_le hh
          cases h; simp at this ⊢; omega
        · split at h <;> cases h
          simp

theorem sign4 (N : Nat) (hN : 10 < N) (s : ByteArray) : lex_next_l12 N s (⟨#[60, 60, 60]⟩ : ByteArray) (⟨#[60, 60]⟩ : ByteArray) (⟨#[62, 62]⟩ : ByteArray) (⟨#[46, 46]⟩ : ByteArray) 0 =
    some (if ([60, 60, 60] : List UInt8).isPrefixOf (bs s) = true then .inl 3 else if ([60, 60] : List UInt8).isPrefixOf (bs s) = true ∨ ([62, 62] : List UInt8).isPrefixOf (bs s) = true ∨ ([46, 46] : List UInt8).isPrefixOf (bs s) = true then .inl 2 else .inr ()) := by
  obtain ⟨m, rfl⟩ : ∃ m, N = m + 5 := ⟨N - 5, by omega⟩
  generalize hM : m + 5 = M
  have st : ∀ (i : Nat) (x : ByteArray) (l : List UInt8) (k : Int), bs x = l → i < 4 → (bif (decide ((i : Int) = 3)) then (⟨#[46, 46]⟩ : ByteArray) else (bif (decide ((i : Int) = 2)) then (⟨#[62, 62]⟩ : ByteArray) else (bif (decide ((i : Int) = 1)) then (⟨#[60, 60]⟩ : ByteArray) else (⟨#[60, 60, 60]⟩ : ByteArray)))) = x → (x.size : Int) = k →
      (lex_next_l12_T M s (⟨#[60, 60, 60]⟩ : ByteArray) (⟨#[60, 60]⟩ : ByteArray) (⟨#[62, 62]⟩ : ByteArray) (⟨#[46, 46]⟩ : ByteArray) (i : Int)).run some = some (if l.isPrefixOf (bs s) = true then .inr (.inl k) else .inl ((i + 1 : Nat) : Int)) := by
    intro i x l k hl hi hx hk
    subst hl
    simp only [lex_next_l12_T, run_br, run_call, run_ret, ltI_iff, inRange_iff, hx, prefix_is, Option.bind_some, hk]
    rw [if_pos (by omega), if_pos (by omega), i64_succ (by omega)]
    split <;> rfl
  have s0 := st 0 (⟨#[60, 60, 60]⟩ : ByteArray) [60, 60, 60] 3 rfl (by omega) rfl rfl
  have s1 := st 1 (⟨#[60, 60]⟩ : ByteArray) [60, 60] 2 rfl (by omega) rfl rfl
  have s2 := st 2 (⟨#[62, 62]⟩ : ByteArray) [62, 62] 2 rfl (by omega) rfl rfl
  have s3 := st 3 (⟨#[46, 46]⟩ : ByteArray) [46, 46] 2 rfl (by omega) rfl rfl
  have s4 : (lex_next_l12_T M s (⟨#[60, 60, 60]⟩ : ByteArray) (⟨#[60, 60]⟩ : ByteArray) (⟨#[62, 62]⟩ : ByteArray) (⟨#[46, 46]⟩ : ByteArray) ((4 : Nat) : Int)).run some = some (.inr (.inr ())) := rfl
  unfold lex_next_l12
  have hM' : 5 ≤ M := by omega
  by_cases h0 : ([60, 60, 60] : List UInt8).isPrefixOf (bs s) = true
  · rw [if_pos h0] at s0 ⊢
    exact loop_stop (by omega) s0
  · rw [if_neg h0] at s0 ⊢
    refine loop_step (by omega) s0 ?_
    by_cases h1 : ([60, 60] : List UInt8).isPrefixOf (bs s) = true
    · rw [if_pos h1] at s1
      rw [if_pos (.inl h1)]
      exact loop_stop (by omega) s1
    · rw [if_neg h1] at s1
      refine loop_step (by omega) s1 ?_
      by_cases h2 : ([62, 62] : List UInt8).isPrefixOf (bs s) = true
      · rw [if_pos h2] at s2
        rw [if_pos (.inr (.inl h2))]
        exact loop_stop (by omega) s2
      · rw [if_neg h2] at s2
        refine loop_step (by omega) s2 ?_
        by_cases h3 : ([46, 46] : List UInt8).isPrefixOf (bs s) = true
        · rw [if_pos h3] at s3
          rw [if_pos (.inr (.inr h3))]
          exact loop_stop (by omega) s3
        · rw [if_neg h3] at s3
          refine loop_step (by omega) s3 ?_
          rw [if_neg (by simp only [h1, h2, h3]; decide)]
          exact loop_stop (by omega) s4

theorem next_is (N : Nat) (s : ByteArray) (h0 : 0 < s.size) (hs : s.size < 4294967281) (hN : s.size + 10 < N) : lex_next N s = some (knR (nxt (bs s))) := by
  have hl := bs_size s
  have r3 := run_inn N s (by omega) (by omega)
  have r4 := run_aln N s (by omega) (by omega)
  have t3 := tw_le isInn (bs s)
  have hx : bs (s.extract 0 (tw isInn (bs s))) = (bs s).take (tw isInn (bs s)) := by rw [bs_extract, List.drop_zero, Nat.sub_zero]
  have hw := word_is N (s.extract 0 (tw isInn (bs s))) (by rw [bs_size, hx, List.length_take]; omega)
  rw [hx] at hw
  simp only [lex_next, lex_next_T, run_br, run_call, run_ret, inRange_iff, bAt_is, letter_is, digit_is, Option.bind_some, r3, r4, leI_iff, ltI_iff, Bool.and_eq_true, toNat_nat, hw, sign4 N (by omega), strings_IndexByte, nxt]
  rw [if_pos (by omega)]
  generalize (bs s).getD 0 0 = c
  by_cases hc : isLet c = true
  · rw [if_pos hc, if_pos hc, if_pos (by omega)]
    split
    · rfl
    · by_cases h32 : 32 < tw isInn (bs s)
      · rw [if_pos (by omega), if_pos h32]; rfl
      · rw [if_neg (by omega), if_neg h32]; rfl
  · rw [if_neg hc, if_neg hc]
    by_cases hd : isDig c = true
    · rw [if_pos hd, if_pos hd]; rfl
    · rw [if_neg hd, if_neg hd]
      by_cases h1 : ([60, 60, 60] : List UInt8).isPrefixOf (bs s) = true
      · simp only [if_pos h1, run_inl, run_ret]; rfl
      · by_cases h2 : ([60, 60] : List UInt8).isPrefixOf (bs s) = true ∨ ([62, 62] : List UInt8).isPrefixOf (bs s) = true ∨ ([46, 46] : List UInt8).isPrefixOf (bs s) = true
        · simp only [if_neg h1, if_pos h2, run_inl, run_ret]; rfl
        · simp only [if_neg h1, if_neg h2, run_inr, run_br, run_call, run_ret, inRange_iff, Option.bind_some, leI_iff]
          rw [if_pos (by omega)]
          have e := Lib.contains_iff_indexByte sgn c
          have e2 : c.toNat.toUInt8 = c := by simp
          rw [e2]
          show (if 0 ≤ Lib.indexByte sgn c then some ((4 : Int), (1 : Int)) else some (0, -1)) = _
          by_cases hh : 0 ≤ Lib.indexByte sgn c
          · rw [if_pos hh, if_pos (by rw [e]; simpa using hh)]; rfl
          · rw [if_neg hh, if_neg (by rw [e]; simpa using hh)]; rfl
end Go.Proofs.YtfbnofpfinenkaaDoorV
