/- Lines and columns of a text, told of its list of bytes. -/
import Derived.Test.YtklnpdnfjponpaaDoorPlaced
import Derived.Test.YtklnpdnfjponpaaDoorWa
import Derived.Lib.Strings
namespace Go.Proofs.YtklnpdnfjponpaaDoorV
set_option linter.unusedVariables false
set_option linter.unusedSimpArgs false

abbrev bs (s : ByteArray) : List UInt8 := s.data.toList
theorem bs_size (s : ByteArray) : s.size = (bs s).length := Lib.size_eq s
theorem bs_ext {a b : ByteArray} (h : bs a = bs b) : a = b := by
  obtain ⟨⟨x⟩⟩ := a
  obtain ⟨⟨y⟩⟩ := b
  simp only [bs] at h
  rw [h]
theorem bs_extract (s : ByteArray) (a b : Nat) : bs (s.extract a b) = ((bs s).drop a).take (b - a) := Lib.extract_data s a b
theorem bs_append (a b : ByteArray) : bs (a ++ b) = bs a ++ bs b := by simp [bs]
theorem b10 (x : UInt8) : ((x.toNat : Int) = 10) = (x = 10) := by
  apply propext
  constructor
  · intro h
    apply UInt8.toNat_inj.1
    have : x.toNat = 10 := by omega
    simpa using this
  · rintro rfl; rfl

section
variable (L : List UInt8)

/-- Lines that are ended, i bytes on. -/
def cn : Nat → Nat
  | 0 => 0
  | i + 1 => cn i + if L.getD i 0 = 10 then 1 else 0
/-- Where the line begins in which the i-th byte is. -/
def st : Nat → Nat
  | 0 => 0
  | i + 1 => if L.getD i 0 = 10 then i + 1 else st i
/-- Where that line ends. -/
def en (a : Nat) : Nat := a + (L.drop a).findIdx (· == 10)
/-- Where line j begins. -/
def bg : Nat → Nat
  | 0 => 0
  | j + 1 => en L (bg j) + 1
end

section
variable {L : List UInt8}
theorem en_spec {a : Nat} (h : a ≤ L.length) : a ≤ en L a ∧ en L a ≤ L.length ∧ (∀ i, a ≤ i → i < en L a → L.getD i 0 ≠ 10) ∧ (en L a < L.length → L.getD (en L a) 0 = 10) := by
  have hl : (L.drop a).findIdx (· == 10) ≤ (L.drop a).length := List.findIdx_le_length
  rw [List.length_drop] at hl
  refine ⟨by unfold en; omega, by unfold en; omega, ?_, ?_⟩
  · intro i h1 h2
    have h3 : i - a < (L.drop a).findIdx (· == 10) := by unfold en at h2; omega
    have := List.not_of_lt_findIdx h3
    simp only [List.getElem_drop, beq_iff_eq, Bool.not_eq_true, beq_eq_false_iff_ne] at this
    rw [getD_nat _ _ _ (by omega)]
    have e : a + (i - a) = i := by omega
    simpa [e] using this
  · intro h1
    have h2 : (L.drop a).findIdx (· == 10) < (L.drop a).length := by rw [List.length_drop]; unfold en at h1; omega
    have := List.findIdx_getElem (w := h2)
    simp only [List.getElem_drop, beq_iff_eq] at this
    rw [getD_nat _ _ _ h1]
    exact this

theorem en_eq {a e : Nat} (h1 : a ≤ e) (h2 : e ≤ L.length) (h3 : ∀ i, a ≤ i → i < e → L.getD i 0 ≠ 10) (h4 : e < L.length → L.getD e 0 = 10) : en L a = e := by
  obtain ⟨s1, s2, s3, s4⟩ := en_spec (L := L) (show a ≤ L.length by omega)
  rcases Nat.lt_trichotomy (en L a) e with h | h | h
  · exact absurd (s4 (by omega)) (h3 _ s1 h)
  · exact h
  · exact absurd (h4 (by omega)) (s3 _ h1 h)

theorem cn_free {a : Nat} : ∀ {b : Nat}, a ≤ b → (∀ i, a ≤ i → i < b → L.getD i 0 ≠ 10) → cn L b = cn L a ∧ st L b = st L a := by
  intro b
  induction b with
  | zero =>
    intro h _
    have h0 : a = 0 := by omega
    rw [h0]
    exact ⟨rfl, rfl⟩
  | succ b ih =>
    intro h hf
    rcases Nat.lt_or_ge a (b + 1) with h1 | h1
    · have := ih (by omega) (fun i x y => hf i x (by omega))
      have hb := hf b (by omega) (by omega)
      rw [cn, st, if_neg hb, if_neg hb]
      exact this
    · have h0 : a = b + 1 := by omega
      rw [h0]
      exact ⟨rfl, rfl⟩

theorem st_le : ∀ i, st L i ≤ i
  | 0 => Nat.le_refl _
  | i + 1 => by have := st_le i; rw [st]; split <;> omega
theorem st_free : ∀ i j, st L i ≤ j → j < i → L.getD j 0 ≠ 10
  | 0, j, _, h => by omega
  | i + 1, j, h1, h2 => by
    rw [st] at h1
    split at h1
    · omega
    · rename_i hne
      rcases Nat.lt_or_ge j i with h | h
      · exact st_free i j h1 h
      · have e : j = i := by omega
        rw [e]; exact hne
theorem en_at {i : Nat} (h : i < L.length) (h10 : L.getD i 0 = 10) : en L i = i := en_eq (Nat.le_refl _) (by omega) (fun j _ _ => by omega) (fun _ => h10)
theorem en_st {i : Nat} (h : i ≤ L.length) : en L (st L i) = en L i := by
  obtain ⟨s1, s2, s3, s4⟩ := en_spec h
  have := st_le (L := L) i
  refine en_eq (by omega) s2 (fun j a b => ?_) s4
  rcases Nat.lt_or_ge j i with hj | hj
  · exact st_free i j a hj
  · exact s3 j hj b

theorem cn_mono {i : Nat} : ∀ {j}, i ≤ j → cn L i ≤ cn L j := by
  intro j
  induction j with
  | zero => intro h; have : i = 0 := by omega
            rw [this]; exact Nat.le_refl _
  | succ j ih =>
    intro h
    rcases Nat.lt_or_ge i (j + 1) with h1 | h1
    · have := ih (by omega)
      rw [cn]
      omega
    · have : i = j + 1 := by omega
      rw [this]; exact Nat.le_refl _

theorem cn_le : ∀ i, cn L i ≤ i
  | 0 => Nat.le_refl _
  | i + 1 => by have := cn_le i; rw [cn]; split <;> omega

theorem bg_spec : ∀ j, j ≤ cn L L.length → bg L j ≤ L.length ∧ cn L (bg L j) = j ∧ st L (bg L j) = bg L j ∧ (j < cn L L.length → en L (bg L j) < L.length)
  | 0, _ => by
    refine ⟨Nat.zero_le _, rfl, rfl, fun h => ?_⟩
    obtain ⟨s1, s2, s3, s4⟩ := en_spec (L := L) (Nat.zero_le _)
    rcases Nat.lt_or_ge (en L 0) L.length with h1 | h1
    · exact h1
    · have h2 : en L 0 = L.length := by omega
      have := (cn_free (L := L) (Nat.zero_le L.length) (fun i a b => s3 i a (by omega))).1
      rw [this] at h
      exact absurd h (Nat.lt_irrefl _)
  | j + 1, h => by
    obtain ⟨h1, h2, h3, h4⟩ := bg_spec j (by omega)
    have h5 := h4 (by omega)
    obtain ⟨s1, s2, s3, s4⟩ := en_spec h1
    have h10 := s4 h5
    have hc := cn_free s1 s3
    have e1 : cn L (en L (bg L j) + 1) = j + 1 := by rw [cn, if_pos h10, hc.1, h2]
    refine ⟨by rw [bg]; omega, by rw [bg]; exact e1, by rw [bg, st, if_pos h10], fun h6 => ?_⟩
    rw [bg]
    obtain ⟨t1, t2, t3, t4⟩ := en_spec (L := L) (show en L (bg L j) + 1 ≤ L.length by omega)
    rcases Nat.lt_or_ge (en L (en L (bg L j) + 1)) L.length with h7 | h7
    · exact h7
    · have := (cn_free (L := L) (show en L (bg L j) + 1 ≤ L.length by omega) (fun i a b => t3 i a (by omega))).1
      rw [this, e1] at h6
      exact absurd h6 (Nat.lt_irrefl _)

theorem bg_cn : ∀ {i : Nat}, i ≤ L.length → bg L (cn L i) = st L i
  | 0, _ => rfl
  | i + 1, h => by
    have ih := bg_cn (i := i) (by omega)
    rw [cn, st]
    by_cases h10 : L.getD i 0 = 10
    · rw [if_pos h10, if_pos h10, bg, ih, en_st (by omega), en_at (by omega) h10]
    · rw [if_neg h10, if_neg h10, Nat.add_zero, ih]

/-- The last line ends where the text ends. -/
theorem bg_last : en L (bg L (cn L L.length)) = L.length := by
  rw [bg_cn (Nat.le_refl _), en_st (Nat.le_refl _)]
  have := en_spec (L := L) (Nat.le_refl L.length)
  omega
end

theorem idx_is (l : List UInt8) : Lib.indexByte l 10 = if l.findIdx (· == 10) < l.length then (l.findIdx (· == 10) : Int) else -1 := by
  induction l with
  | nil => rfl
  | cons b l ih =>
    rw [Lib.indexByte, List.findIdx_cons]
    by_cases hb : (b == 10) = true
    · simp [hb]
    · have hb' : (b == 10) = false := by simpa using hb
      rw [ih]
      have hle : l.findIdx (· == 10) ≤ l.length := List.findIdx_le_length
      simp only [hb', Bool.false_eq_true, if_false, cond_false, List.length_cons]
      by_cases h : l.findIdx (· == 10) < l.length
      · rw [if_pos h, if_neg (by simp <;> omega), if_pos (by omega)]
        omega
      · rw [if_neg h, if_pos (by decide), if_neg (by omega)]

theorem count_is (L : List UInt8) : ∀ i, i ≤ L.length → Lib.countByte (L.take i) 10 = cn L i
  | 0, _ => by simp [Lib.countByte, cn]
  | i + 1, h => by
    have ih := count_is L i (by omega)
    unfold Lib.countByte at ih ⊢
    rw [take_snoc L (by omega), List.count_append, ih, cn, getD_nat _ _ _ (by omega : i < L.length), List.count_singleton]
    simp

theorem last_is (s : ByteArray) : ∀ i, i ≤ s.size → Lib.lastIdx s 10 i + 1 = (st (bs s) i : Int)
  | 0, _ => rfl
  | i + 1, h => by
    have ih := last_is s i (by omega)
    have hl : i < (bs s).length := by rw [← bs_size]; omega
    have e : (s.data[i]!) = (bs s).getD i 0 := by
      rw [getD_nat _ _ _ hl]
      simp only [bs, Array.getElem_toList]
      exact getElem!_pos s.data i (by simpa [bs] using hl)
    rw [Lib.lastIdx, st, e]
    simp only [b10]
    by_cases h10 : (bs s).getD i 0 = 10
    · rw [if_pos h10, if_pos h10]; omega
    · rw [if_neg h10, if_neg h10]; exact ih
theorem last_take (s : ByteArray) {i : Nat} (h : i ≤ s.size) : Lib.lastIndexByte (s.extract 0 i) 10 + 1 = (st (bs s) i : Int) := by
  have hs : (s.extract 0 i).size = i := by rw [bs_size, bs_extract]; simp [bs] at *; rw [bs_size] at h; simp [bs] at h; omega
  have hc : ∀ j, j ≤ i → st (bs (s.extract 0 i)) j = st (bs s) j := by
    intro j
    induction j with
    | zero => intro _; rfl
    | succ j ih =>
      intro hj
      rw [st, st, ih (by omega), bs_extract, Nat.sub_zero, List.drop_zero, getD_take _ _ (by omega)]
  unfold Lib.lastIndexByte
  rw [hs, last_is _ i (by omega), hc i (Nat.le_refl _)]
end Go.Proofs.YtklnpdnfjponpaaDoorV
