/- Sorting by insertion; turning a range about; patterns broken. -/
import Derived.Test.YtkcimijkcmoonaaDoorPSortA
import Derived.Test.YtkcimijkcmoonaaDoorAnfd
namespace Go.Proofs.YtkcimijkcmoonaaDoorV
set_option linter.unusedVariables false
set_option linter.unusedSimpArgs false

theorem less_eq (N : Nat) (x y : Int) : cmp_Less N x y = some (ltI x y) := by
  have h : cmp_isNaN N x = some false := by simp [cmp_isNaN, cmp_isNaN_T]
  simp [cmp_Less, cmp_Less_T, h]

theorem TS.less {α : Type} {N : Nat} {x y : Int} {f : Bool → Tree α} {Q : α → Prop} (h1 : x < y → TS (f true) Q) (h2 : y ≤ x → TS (f false) Q) : TS (.call (cmp_Less N x y) f) Q := by
  rw [less_eq]
  refine TS.call (P := fun c => c = ltI x y) ⟨_, rfl, rfl⟩ (fun c hc => ?_)
  subst hc
  cases h : ltI x y with
  | true => rw [ltI_iff] at h; exact h1 h
  | false => rw [ltI_eq, decide_eq_false_iff_not] at h; exact h2 (by omega)

section
variable (N : Nat) {a b : Int} (ha : 0 ≤ a) {n : Nat} (hn : (n : Int) < 4611686018427387904) (hN : n + 2 < N) (hb : b ≤ n)
include ha hn hN hb

/-- Sorted but for one place, which is not greater than what is behind it. -/
def But (a i j : Int) (r : List Int) : Prop := (∀ p q, a ≤ p → p ≤ q → q ≤ i → p ≠ j → q ≠ j → at0 r p ≤ at0 r q) ∧ ∀ q, j < q → q ≤ i → at0 r j ≤ at0 r q

omit hn hN in
theorem But.step {i j : Int} {r : List Int} (hr : r.length = n) (hj : a < j) (hji : j ≤ i) (hi : i < b) (h : But a i j r) (hl : at0 r j < at0 r (j - 1)) : But a i (j - 1) (swp r j (j - 1)) := by
  obtain ⟨h1, h2⟩ := h
  have hs : ∀ k, 0 ≤ k → at0 (swp r j (j - 1)) k = if k = j - 1 then at0 r j else if k = j then at0 r (j - 1) else at0 r k := fun k hk => swp_at (by omega) (by omega) (by omega) (by omega) hk
  refine ⟨fun p q hp hpq hq hpj hqj => ?_, fun q h3 h4 => ?_⟩
  · rw [hs p (by omega), hs q (by omega), if_neg hpj, if_neg hqj]
    by_cases e1 : p = j
    · by_cases e2 : q = j
      · rw [if_pos e1, if_pos e2]; exact Int.le_refl _
      · rw [if_pos e1, if_neg e2]; exact h1 _ _ (by omega) (by omega) hq (by omega) e2
    · by_cases e2 : q = j
      · rw [if_neg e1, if_pos e2]; exact h1 _ _ hp (by omega) (by omega) e1 (by omega)
      · rw [if_neg e1, if_neg e2]; exact h1 _ _ hp hpq hq e1 e2
  · rw [hs (j - 1) (by omega), hs q (by omega), if_pos rfl, if_neg (by omega)]
    by_cases e2 : q = j
    · rw [if_pos e2]; omega
    · rw [if_neg e2]; exact h2 q (by omega) h4

omit hn hN hb ha in
theorem But.done {i j : Int} {r : List Int} (hji : j ≤ i) (h : But a i j r) (hl : j ≤ a ∨ at0 r (j - 1) ≤ at0 r j) : Sd a (i + 1) r := by
  obtain ⟨h1, h2⟩ := h
  intro p q hp hpq hq
  by_cases e1 : p = q
  · subst e1; exact Int.le_refl _
  by_cases e2 : p = j
  · subst e2; exact h2 q (by omega) (by omega)
  by_cases e3 : q = j
  · subst e3
    rcases hl with hl | hl
    · omega
    · by_cases e4 : p = q - 1
      · subst e4; exact hl
      · exact Int.le_trans (h1 p (q - 1) hp (by omega) (by omega) e2 (by omega)) hl
  · exact h1 p q hp hpq (by omega) e2 e3

theorem ins_l4 {i : Int} {l : List Int} (hl : l.length = n) (hai : a ≤ i) (hib : i < b) (h : But a i i l) : OS (slices_insertionSortOrdered_l4 N a (i, l)) (fun r => Sw a b l r ∧ Sd a (i + 1) r) := by
  refine loop_os (fun x : Int × List Int => a ≤ x.1 ∧ x.1 ≤ i ∧ Sw a b l x.2 ∧ But a i x.1 x.2) (fun x => (x.1 - a).toNat) _ ⟨hai, Int.le_refl _, .refl _, h⟩ (by dsimp only; omega) ?_
  rintro ⟨j, r⟩ ⟨h1, h2, h3, h4⟩
  dsimp only at h1 h2 h3 h4 ⊢
  have hr := h3.len
  unfold slices_insertionSortOrdered_l4_T
  simp (disch := omega) only [i64_in]
  refine TS.br (fun hc => ?_) (fun hc => ?_)
  · rw [ltI_iff] at hc
    refine TS.brT (by rw [inRange_iff]; omega) (TS.brT (by rw [inRange_iff]; omega) (TS.less (fun hlt => ?_) (fun hge => ?_)))
    · have hj : slices_insertionSortOrdered_j6 N j r = some (j - 1, swp r j (j - 1)) := by
        have := swap_ts (l := r) (i := j) (j := j - 1) (f := fun x => .ret (j - 1, x)) (Q := fun y => y = (j - 1, swp r j (j - 1))) (by omega) (by omega) (TS.ret rfl)
        obtain ⟨y, hy, rfl⟩ := this
        unfold slices_insertionSortOrdered_j6 slices_insertionSortOrdered_j6_T
        simp (disch := omega) only [i64_in]
        exact hy
      rw [hj]
      refine TS.call (P := fun y => y = (j - 1, swp r j (j - 1))) ⟨_, rfl, rfl⟩ (fun y hy => ?_)
      subst hy
      refine TS.ret ⟨⟨by dsimp only; omega, by dsimp only; omega, .step j (j - 1) h3 (by omega) (by omega), But.step ha hb (by omega) hc h2 hib h4 hlt⟩, by dsimp only; omega⟩
    · exact TS.ret ⟨h3, But.done h2 h4 (.inr hge)⟩
  · have hc' : ¬ a < j := by rw [← ltI_iff, hc]; simp
    exact TS.ret ⟨h3, But.done h2 h4 (.inl (by omega))⟩

theorem ins_ok {l : List Int} (hl : l.length = n) (hab : a ≤ b) : OS (slices_insertionSortOrdered N a b l) (fun r => Sw a b l r ∧ Sd a b r) := by
  unfold slices_insertionSortOrdered
  refine OS.of ?_
  unfold slices_insertionSortOrdered_T
  simp (disch := omega) only [i64_in]
  have hloop : OS (slices_insertionSortOrdered_l1 N a b (a + 1, l)) (fun r => Sw a b l r ∧ Sd a b r) := by
    refine loop_os (fun x : Int × List Int => a + 1 ≤ x.1 ∧ Sw a b l x.2 ∧ Sd a (min x.1 b) x.2) (fun x => (b + 1 - x.1).toNat) _ ⟨Int.le_refl _, .refl _, fun p q h1 h2 h3 => ?_⟩ (by dsimp only; omega) ?_
    · dsimp only at h3
      have : p = q := by omega
      subst this; exact Int.le_refl _
    · rintro ⟨i, r⟩ ⟨h1, h2, h3⟩
      dsimp only at h1 h2 h3 ⊢
      have hr := h2.len
      unfold slices_insertionSortOrdered_l1_T
      refine TS.br (fun hc => ?_) (fun hc => ?_)
      · rw [ltI_iff] at hc
        have hbut : But a i i r := ⟨fun p q e1 e2 e3 e4 e5 => h3 p q e1 e2 (by omega), fun q e1 e2 => by omega⟩
        refine TS.call (ins_l4 N ha hn hN hb (by omega) (by omega) hc hbut) (fun y hy => ?_)
        simp (disch := omega) only [i64_in]
        refine TS.ret ⟨⟨by dsimp only; omega, h2.trans hy.1, ?_⟩, by dsimp only; omega⟩
        have : min (i + 1) b = i + 1 := by omega
        dsimp only
        rw [this]
        exact hy.2
      · have hc' : ¬ i < b := by rw [← ltI_iff, hc]; simp
        have : min i b = b := by omega
        rw [this] at h3
        exact TS.ret ⟨h2, h3⟩
  exact TS.call hloop (fun y hy => TS.ret hy)

theorem rev_ok {l : List Int} (hl : l.length = n) (hab : a < b) : OS (slices_reverseRangeOrdered N a b l) (fun r => Sw a b l r) := by
  unfold slices_reverseRangeOrdered
  refine OS.of ?_
  unfold slices_reverseRangeOrdered_T
  simp (disch := omega) only [i64_in]
  have hloop : OS (slices_reverseRangeOrdered_l2 N (a, b - 1, l)) (fun r => Sw a b l r) := by
    refine loop_os (fun x : Int × Int × List Int => a ≤ x.1 ∧ x.2.1 < b ∧ Sw a b l x.2.2) (fun x => (b - x.1).toNat) _ ⟨Int.le_refl _, by dsimp only; omega, .refl _⟩ (by dsimp only; omega) ?_
    rintro ⟨i, j, r⟩ ⟨h1, h2, h3⟩
    dsimp only at h1 h2 h3 ⊢
    have hr := h3.len
    unfold slices_reverseRangeOrdered_l2_T
    refine TS.br (fun hc => ?_) (fun hc => TS.ret h3)
    rw [ltI_iff] at hc
    simp (disch := omega) only [i64_in]
    refine swap_ts (l := r) (i := i) (j := j) (f := fun x => Tree.ret (Sum.inl (i + 1, j - 1, x))) (by omega) (by omega) (TS.ret ⟨⟨?_, ?_, .step i j h3 (by omega) (by omega)⟩, ?_⟩) <;> dsimp only <;> omega
  exact TS.call hloop (fun y hy => TS.ret hy)
end
end Go.Proofs.YtkcimijkcmoonaaDoorV
