/- Polynomials of values: by halves, and by all places within a place. -/
import Derived.Test.YtkcimijkcmoonaaDoorPAnfE
namespace Go.Proofs.YtkcimijkcmoonaaDoorV
set_option linter.unusedVariables false
set_option linter.unusedSimpArgs false

/-! ### By halves -/
def Th (k : Nat) (f : Nat → Bool) (i : Nat) : Bool := if i.testBit k then (f i != f (i ^^^ 2 ^ k)) else f i
def Fh : Nat → (Nat → Bool) → Nat → Bool
  | 0, f => f
  | k + 1, f => Th k (Fh k f)

theorem test_flip (i k j : Nat) : (i ^^^ 2 ^ k).testBit j = (i.testBit j != decide (k = j)) := by
  rw [Nat.testBit_xor, Nat.testBit_two_pow]
theorem flip_flip (i k : Nat) : (i ^^^ 2 ^ k) ^^^ 2 ^ k = i := by rw [Nat.xor_assoc, Nat.xor_self, Nat.xor_zero]
theorem Th_Th (k : Nat) (f : Nat → Bool) : Th k (Th k f) = f := by
  funext i
  unfold Th
  cases h : i.testBit k with
  | false => simp
  | true =>
    have : (i ^^^ 2 ^ k).testBit k = false := by rw [test_flip, h]; simp
    simp [this]
theorem Th_comm {j k : Nat} (hjk : j ≠ k) (f : Nat → Bool) : Th j (Th k f) = Th k (Th j f) := by
  funext i
  unfold Th
  have e1 : (i ^^^ 2 ^ j).testBit k = i.testBit k := by rw [test_flip]; simp [hjk]
  have e2 : (i ^^^ 2 ^ k).testBit j = i.testBit j := by rw [test_flip]; simp [Ne.symm hjk]
  have e3 : (i ^^^ 2 ^ j) ^^^ 2 ^ k = (i ^^^ 2 ^ k) ^^^ 2 ^ j := by rw [Nat.xor_assoc, Nat.xor_comm (2 ^ j), ← Nat.xor_assoc]
  rw [e1, e2, e3]
  cases i.testBit j <;> cases i.testBit k <;> simp
  cases f i <;> cases f (i ^^^ 2 ^ j) <;> cases f (i ^^^ 2 ^ k) <;> cases f ((i ^^^ 2 ^ k) ^^^ 2 ^ j) <;> rfl
theorem Fh_Th {k m : Nat} (hk : k ≤ m) (f : Nat → Bool) : Fh k (Th m f) = Th m (Fh k f) := by
  induction k with
  | zero => rfl
  | succ k ih =>
    show Th k (Fh k (Th m f)) = Th m (Th k (Fh k f))
    rw [ih (by omega), Th_comm (by omega)]
theorem Fh_Fh (k : Nat) (f : Nat → Bool) : Fh k (Fh k f) = f := by
  induction k with
  | zero => rfl
  | succ k ih =>
    show Th k (Fh k (Th k (Fh k f))) = f
    rw [Fh_Th (Nat.le_refl _), Th_Th, ih]

/-! ### By all places within -/
theorem countP_sum {α : Type} (p q r : α → Bool) (h : ∀ x, (if p x then 1 else 0) = (if q x then 1 else 0) + (if r x then 1 else 0 : Nat)) : ∀ l : List α, l.countP p = l.countP q + l.countP r
  | [] => rfl
  | x :: l => by
    rw [List.countP_cons, List.countP_cons, List.countP_cons, countP_sum p q r h l]
    have := h x
    omega
theorem countP_one (g : Nat → Bool) (i : Nat) : ∀ n, (List.range n).countP (fun x => x == i && g x) = if i < n ∧ g i = true then 1 else 0
  | 0 => by simp
  | n + 1 => by
    rw [List.range_succ, List.countP_append, countP_one g i n]
    by_cases e : n = i
    · subst e
      cases h : g n <;> simp [h]
    · have e' : (n == i) = false := by simpa using e
      by_cases h : i < n ∧ g i = true
      · rw [if_pos h, if_pos ⟨by omega, h.2⟩]; simp [e']
      · rw [if_neg h, if_neg (fun hh => h ⟨by omega, hh.2⟩)]; simp [e']

theorem shr_step (x i k : Nat) : (x >>> k = i >>> k) ↔ (x >>> (k + 1) = i >>> (k + 1) ∧ x.testBit k = i.testBit k) := by
  constructor
  · intro h
    refine ⟨Nat.eq_of_testBit_eq fun j => ?_, ?_⟩
    · have := congrArg (fun v => v.testBit (1 + j)) h
      simp only [Nat.testBit_shiftRight] at this ⊢
      rwa [← Nat.add_assoc] at this
    · have := congrArg (fun v => v.testBit 0) h
      simpa only [Nat.testBit_shiftRight, Nat.add_zero] using this
  · rintro ⟨h1, h2⟩
    refine Nat.eq_of_testBit_eq fun j => ?_
    cases j with
    | zero => simpa only [Nat.testBit_shiftRight, Nat.add_zero] using h2
    | succ j =>
      have := congrArg (fun v => v.testBit j) h1
      simp only [Nat.testBit_shiftRight] at this ⊢
      have e : k + (j + 1) = k + 1 + j := by omega
      rw [e]; exact this
theorem or_iff (x i : Nat) : (x ||| i = i) ↔ ∀ j, x.testBit j = true → i.testBit j = true := by
  constructor
  · intro h j hj
    have := congrArg (fun v => v.testBit j) h
    simp only [Nat.testBit_or, hj, Bool.true_or] at this
    exact this.symm
  · intro h
    refine Nat.eq_of_testBit_eq fun j => ?_
    rw [Nat.testBit_or]
    have := h j
    cases e : x.testBit j <;> simp [e] at this ⊢
    exact this

/-- The places within i, that agree with it from bit k on, of which f is true. -/
def ins (f : Nat → Bool) (k i x : Nat) : Bool := (x >>> k == i >>> k) && ((x ||| i == i) && f x)

theorem ins_step (f : Nat → Bool) (k i x : Nat) : (if ins f (k + 1) i x then 1 else 0) = (if ins f k i x then 1 else 0) + (if i.testBit k && ins f k (i ^^^ 2 ^ k) x then 1 else 0 : Nat) := by
  unfold ins
  have a1 := shr_step x i k
  have a2 := shr_step x (i ^^^ 2 ^ k) k
  have a3 : (i ^^^ 2 ^ k) >>> (k + 1) = i >>> (k + 1) := Nat.eq_of_testBit_eq fun j => by
    rw [Nat.testBit_shiftRight, Nat.testBit_shiftRight, test_flip]
    have : ¬ k = k + 1 + j := by omega
    simp [this]
  have a4 : (i ^^^ 2 ^ k).testBit k = !i.testBit k := by rw [test_flip]; simp
  rw [a3, a4] at a2
  by_cases h1 : x >>> (k + 1) = i >>> (k + 1)
  · cases hi : i.testBit k with
    | false =>
      cases hx : x.testBit k with
      | false =>
        have e : x >>> k = i >>> k := a1.2 ⟨h1, by rw [hx, hi]⟩
        simp [h1, e]
      | true =>
        have e : ¬ x >>> k = i >>> k := fun h => by have := (a1.1 h).2; rw [hx, hi] at this; cases this
        have e2 : ¬ x ||| i = i := fun h => by have := (or_iff x i).1 h k hx; rw [hi] at this; cases this
        simp [e, e2]
    | true =>
      cases hx : x.testBit k with
      | true =>
        have e : x >>> k = i >>> k := a1.2 ⟨h1, by rw [hx, hi]⟩
        have e2 : ¬ x >>> k = (i ^^^ 2 ^ k) >>> k := fun h => by have := (a2.1 h).2; rw [hx, hi] at this; cases this
        have e5 : (x >>> k == i >>> k) = true := by simpa using e
        have e6 : (x >>> k == (i ^^^ 2 ^ k) >>> k) = false := by simpa using e2
        have e7 : (x >>> (k + 1) == i >>> (k + 1)) = true := by simpa using h1
        rw [e5, e6, e7]; simp
      | false =>
        have e : ¬ x >>> k = i >>> k := fun h => by have := (a1.1 h).2; rw [hx, hi] at this; cases this
        have e2 : x >>> k = (i ^^^ 2 ^ k) >>> k := a2.2 ⟨h1, by rw [hx, hi]; rfl⟩
        have e3 : (x ||| i ^^^ 2 ^ k = i ^^^ 2 ^ k) ↔ x ||| i = i := by
          rw [or_iff, or_iff]
          constructor
          · intro h j hj
            have := h j hj
            rw [test_flip] at this
            by_cases e : k = j
            · subst e; rw [hx] at hj; cases hj
            · simpa [e] using this
          · intro h j hj
            rw [test_flip, h j hj]
            by_cases e : k = j
            · subst e; rw [hx] at hj; cases hj
            · simp [e]
        have e4 : ((x ||| i ^^^ 2 ^ k) == i ^^^ 2 ^ k) = (x ||| i == i) := by
          rw [Bool.eq_iff_iff, beq_iff_eq, beq_iff_eq]; exact e3
        have e5 : (x >>> k == i >>> k) = false := by simpa using e
        have e6 : (x >>> k == (i ^^^ 2 ^ k) >>> k) = true := by simpa using e2
        have e7 : (x >>> (k + 1) == i >>> (k + 1)) = true := by simpa using h1
        rw [e4, e5, e6, e7]
        simp
  · have e : ¬ x >>> k = i >>> k := fun h => h1 (a1.1 h).1
    have e2 : ¬ x >>> k = (i ^^^ 2 ^ k) >>> k := fun h => h1 (a2.1 h).1
    have e5 : (x >>> k == i >>> k) = false := by simpa using e
    have e6 : (x >>> k == (i ^^^ 2 ^ k) >>> k) = false := by simpa using e2
    have e7 : (x >>> (k + 1) == i >>> (k + 1)) = false := by simpa using h1
    rw [e5, e6, e7]; simp

theorem flip_lt {i k K : Nat} (hi : i < 2 ^ K) (hk : k < K) : i ^^^ 2 ^ k < 2 ^ K := Nat.xor_lt_two_pow hi (Nat.pow_lt_pow_right (by decide) hk)

theorem Fh_count (f : Nat → Bool) (K : Nat) : ∀ k, k ≤ K → ∀ i, i < 2 ^ K → Fh k f i = decide ((List.range (2 ^ K)).countP (ins f k i) % 2 = 1)
  | 0, _, i, hi => by
    have e : (ins f 0 i) = fun x => x == i && f x := by
      funext x
      unfold ins
      by_cases h : x = i
      · subst h; simp
      · have : (x == i) = false := by simpa using h
        simp [this]
    rw [e, countP_one]
    show f i = _
    cases f i <;> simp [hi]
  | k + 1, hk, i, hi => by
    have h1 := Fh_count f K k (by omega) i hi
    have h2 := Fh_count f K k (by omega) (i ^^^ 2 ^ k) (flip_lt hi (by omega))
    rw [countP_sum _ _ _ (ins_step f k i)]
    show Th k (Fh k f) i = _
    unfold Th
    rw [h1, h2]
    cases hb : i.testBit k with
    | false => simp
    | true =>
      simp only [Bool.true_and, if_true]
      generalize (List.range (2 ^ K)).countP (ins f k i) = c
      have : (fun x => ins f k (i ^^^ 2 ^ k) x) = ins f k (i ^^^ 2 ^ k) := rfl
      rw [this]
      generalize (List.range (2 ^ K)).countP (ins f k (i ^^^ 2 ^ k)) = d
      rcases Nat.mod_two_eq_zero_or_one c with h | h <;> rcases Nat.mod_two_eq_zero_or_one d with h' | h' <;> simp [h, h', Nat.add_mod]

theorem Fh_all (f : Nat → Bool) {K i : Nat} (hi : i < 2 ^ K) : Fh K f i = decide ((List.range (2 ^ K)).countP (fun x => (x ||| i == i) && f x) % 2 = 1) := by
  rw [Fh_count f K K (Nat.le_refl _) i hi]
  congr 3
  refine List.countP_congr fun x hx => ?_
  have hx : x < 2 ^ K := by simpa using hx
  have e : (x >>> K == i >>> K) = true := by
    rw [Nat.shiftRight_eq_div_pow, Nat.shiftRight_eq_div_pow, Nat.div_eq_of_lt hx, Nat.div_eq_of_lt hi]; rfl
  unfold ins
  rw [e, Bool.true_and]
end Go.Proofs.YtkcimijkcmoonaaDoorV
