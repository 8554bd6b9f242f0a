/- Parting a range about a pivot; a range that is nearly sorted. -/
import Derived.Test.YtkcimijkcmoonaaDoorPSortC
namespace Go.Proofs.YtkcimijkcmoonaaDoorV
set_option linter.unusedVariables false
set_option linter.unusedSimpArgs false

section
variable (N : Nat) {n : Nat} (hn : (n : Int) < 1152921504606846976) (hN : n + 2 < N) {a b : Int} (ha : 0 ≤ a) (hb : b ≤ n)
include hn hN ha hb

/-! ### The equal ones ahead -/
theorem pe_l3 {r : List Int} (hr : r.length = n) {i j : Int} (hi : a < i) (hij : i ≤ j + 1) (hj : j < b) :
    OS (slices_partitionEqualOrdered_l3 N a j r i) (fun y => i ≤ y ∧ y ≤ j + 1 ∧ (∀ k, i ≤ k → k < y → at0 r k ≤ at0 r a) ∧ (y ≤ j → at0 r a < at0 r y)) := by
  refine loop_os (fun y : Int => i ≤ y ∧ y ≤ j + 1 ∧ ∀ k, i ≤ k → k < y → at0 r k ≤ at0 r a) (fun y => (j + 1 - y).toNat) _ ⟨Int.le_refl _, hij, fun k h1 h2 => by omega⟩ (by omega) ?_
  rintro y ⟨h1, h2, h3⟩
  unfold slices_partitionEqualOrdered_l3_T
  refine TS.br (fun hc => ?_) (fun hc => ?_)
  · rw [leI_iff] at hc
    refine TS.brT (by rw [inRange_iff]; omega) (TS.brT (by rw [inRange_iff]; omega) (TS.less (fun hlt => ?_) (fun hge => ?_)))
    · exact TS.brF rfl (TS.ret ⟨h1, h2, h3, fun _ => hlt⟩)
    · simp (disch := omega) only [i64_in]
      refine TS.brT rfl (TS.ret ⟨⟨by omega, by omega, fun k g1 g2 => ?_⟩, by omega⟩)
      by_cases e : k = y
      · subst e; exact hge
      · exact h3 k g1 (by omega)
  · have hc' : ¬ y ≤ j := by rw [← leI_iff, hc]; simp
    exact TS.ret ⟨h1, h2, h3, fun h => absurd h hc'⟩
theorem pe_l5 {r : List Int} (hr : r.length = n) {i j : Int} (hi : a < i) (hij : i ≤ j + 1) (hj : j < b) :
    OS (slices_partitionEqualOrdered_l5 N a i r j) (fun y => i - 1 ≤ y ∧ y ≤ j ∧ (∀ k, y < k → k ≤ j → at0 r a < at0 r k) ∧ (i ≤ y → at0 r y ≤ at0 r a)) := by
  refine loop_os (fun y : Int => i - 1 ≤ y ∧ y ≤ j ∧ ∀ k, y < k → k ≤ j → at0 r a < at0 r k) (fun y => (y + 1 - i).toNat) _ ⟨by omega, Int.le_refl _, fun k h1 h2 => by omega⟩ (by omega) ?_
  rintro y ⟨h1, h2, h3⟩
  unfold slices_partitionEqualOrdered_l5_T
  refine TS.br (fun hc => ?_) (fun hc => ?_)
  · rw [leI_iff] at hc
    refine TS.brT (by rw [inRange_iff]; omega) (TS.brT (by rw [inRange_iff]; omega) (TS.less (fun hlt => ?_) (fun hge => ?_)))
    · simp (disch := omega) only [i64_in]
      refine TS.brT rfl (TS.ret ⟨⟨by omega, by omega, fun k g1 g2 => ?_⟩, by omega⟩)
      by_cases e : k = y
      · subst e; exact hlt
      · exact h3 k (by omega) g2
    · exact TS.brF rfl (TS.ret ⟨h1, h2, h3, fun _ => hge⟩)
  · have hc' : ¬ i ≤ y := by rw [← leI_iff, hc]; simp
    exact TS.ret ⟨h1, h2, h3, fun h => absurd h hc'⟩

theorem pe_ok {l : List Int} (hl : l.length = n) {p : Int} (hp : a ≤ p ∧ p < b) : OS (slices_partitionEqualOrdered N a b p l) (fun y => a < y.1 ∧ y.1 ≤ b ∧ Sw a b l y.2 ∧ (∀ k, a ≤ k → k < y.1 → at0 y.2 k ≤ at0 l p) ∧ ∀ k, y.1 ≤ k → k < b → at0 l p < at0 y.2 k) := by
  unfold slices_partitionEqualOrdered
  refine OS.of ?_
  unfold slices_partitionEqualOrdered_T
  simp (disch := omega) only [i64_in]
  refine swap_ts (l := l) (i := a) (j := p) (f := fun x => Tree.call (slices_partitionEqualOrdered_l10003 N a (a + 1, b - 1, x)) fun y7 => Tree.ret (y7.1, y7.2)) (by omega) (by omega) ?_
  have hloop : OS (slices_partitionEqualOrdered_l10003 N a (a + 1, b - 1, swp l a p)) (fun y => a < y.1 ∧ y.1 ≤ b ∧ Sw a b l y.2 ∧ (∀ k, a ≤ k → k < y.1 → at0 y.2 k ≤ at0 l p) ∧ ∀ k, y.1 ≤ k → k < b → at0 l p < at0 y.2 k) := by
    refine loop_os (fun x : Int × Int × List Int => a < x.1 ∧ x.1 ≤ x.2.1 + 1 ∧ x.2.1 < b ∧ Sw a b l x.2.2 ∧ at0 x.2.2 a = at0 l p ∧ (∀ k, a ≤ k → k < x.1 → at0 x.2.2 k ≤ at0 l p) ∧ ∀ k, x.2.1 < k → k < b → at0 l p < at0 x.2.2 k) (fun x => (x.2.1 + 2 - x.1).toNat) _
      ⟨by dsimp only; omega, by dsimp only; omega, by dsimp only; omega, .one l a p (by omega) (by omega), ?_, fun k g1 g2 => ?_, fun k g1 g2 => by dsimp only at g1; omega⟩ (by dsimp only; omega) ?_
    · dsimp only
      rw [swp_at ha (by omega) (by omega) (by omega) ha]
      by_cases e : a = p
      · rw [if_pos e, e]
      · rw [if_neg e, if_pos rfl]
    · dsimp only at g2 ⊢
      have : k = a := by omega
      subst this
      rw [swp_at ha (by omega) (by omega) (by omega) ha]
      by_cases e : k = p
      · rw [if_pos e, e]; exact Int.le_refl _
      · rw [if_neg e, if_pos rfl]; exact Int.le_refl _
    · rintro ⟨i, j, r⟩ ⟨h1, h2, h3, h4, h5, h6, h7⟩
      dsimp only at h1 h2 h3 h4 h5 h6 h7 ⊢
      have hr : r.length = n := h4.len.trans hl
      unfold slices_partitionEqualOrdered_l10003_T
      refine TS.call (pe_l3 N hn hN ha hb hr h1 h2 h3) (fun y1 hy1 => TS.call (pe_l5 N hn hN ha hb hr (i := y1) (by omega) hy1.2.1 h3) (fun y2 hy2 => ?_))
      obtain ⟨p1, p2, p3, p4⟩ := hy1
      obtain ⟨q1, q2, q3, q4⟩ := hy2
      rw [h5] at p3 p4 q3 q4
      have low : ∀ k, a ≤ k → k < y1 → at0 r k ≤ at0 l p := fun k g1 g2 => by
        by_cases e : k < i
        · exact h6 k g1 e
        · exact p3 k (by omega) g2
      have high : ∀ k, y2 < k → k < b → at0 l p < at0 r k := fun k g1 g2 => by
        by_cases e : k ≤ j
        · exact q3 k g1 e
        · exact h7 k (by omega) g2
      refine TS.br (fun hc => ?_) (fun hc => ?_)
      · rw [ltI_iff] at hc
        exact TS.ret ⟨by dsimp only; omega, by dsimp only; omega, h4, low, fun k g1 g2 => high k (by dsimp only at g1; omega) g2⟩
      · have hc' : ¬ y2 < y1 := by rw [← ltI_iff, hc]; simp
        have g1 := p4 (by omega)
        have g2 := q4 (by omega)
        have hne : y1 ≠ y2 := fun e => by subst e; omega
        simp (disch := omega) only [i64_in]
        have hs : ∀ k, 0 ≤ k → at0 (swp r y1 y2) k = if k = y2 then at0 r y1 else if k = y1 then at0 r y2 else at0 r k := fun k hk => swp_at (by omega) (by omega) (by omega) (by omega) hk
        refine swap_ts (l := r) (i := y1) (j := y2) (f := fun x => Tree.ret (Sum.inl (y1 + 1, y2 - 1, x))) (by omega) (by omega) (TS.ret ⟨⟨by dsimp only; omega, by dsimp only; omega, by dsimp only; omega, .step y1 y2 h4 (by omega) (by omega), ?_, fun k e1 e2 => ?_, fun k e1 e2 => ?_⟩, by dsimp only; omega⟩)
        · dsimp only
          rw [hs a ha, if_neg (by omega), if_neg (by omega)]
          exact h5
        · dsimp only at e2 ⊢
          rw [hs k (by omega), if_neg (by omega)]
          split
          · exact g2
          · exact low k e1 (by omega)
        · dsimp only at e1 ⊢
          rw [hs k (by omega)]
          split
          · exact g1
          · rw [if_neg (by omega)]; exact high k (by omega) e2
  exact TS.call hloop (fun y hy => TS.ret hy)

/-! ### The smaller ones ahead -/
theorem pa_l3 {r : List Int} (hr : r.length = n) {i j : Int} (hi : a < i) (hij : i ≤ j + 1) (hj : j < b) :
    OS (slices_partitionOrdered_l3 N a j r i) (fun y => i ≤ y ∧ y ≤ j + 1 ∧ (∀ k, i ≤ k → k < y → at0 r k < at0 r a) ∧ (y ≤ j → at0 r a ≤ at0 r y)) := by
  refine loop_os (fun y : Int => i ≤ y ∧ y ≤ j + 1 ∧ ∀ k, i ≤ k → k < y → at0 r k < at0 r a) (fun y => (j + 1 - y).toNat) _ ⟨Int.le_refl _, hij, fun k h1 h2 => by omega⟩ (by omega) ?_
  rintro y ⟨h1, h2, h3⟩
  unfold slices_partitionOrdered_l3_T
  refine TS.br (fun hc => ?_) (fun hc => ?_)
  · rw [leI_iff] at hc
    refine TS.brT (by rw [inRange_iff]; omega) (TS.brT (by rw [inRange_iff]; omega) (TS.less (fun hlt => ?_) (fun hge => ?_)))
    · simp (disch := omega) only [i64_in]
      refine TS.brT rfl (TS.ret ⟨⟨by omega, by omega, fun k g1 g2 => ?_⟩, by omega⟩)
      by_cases e : k = y
      · subst e; exact hlt
      · exact h3 k g1 (by omega)
    · exact TS.brF rfl (TS.ret ⟨h1, h2, h3, fun _ => hge⟩)
  · have hc' : ¬ y ≤ j := by rw [← leI_iff, hc]; simp
    exact TS.ret ⟨h1, h2, h3, fun h => absurd h hc'⟩
theorem pa_l5 {r : List Int} (hr : r.length = n) {i j : Int} (hi : a < i) (hij : i ≤ j + 1) (hj : j < b) :
    OS (slices_partitionOrdered_l5 N a i r j) (fun y => i - 1 ≤ y ∧ y ≤ j ∧ (∀ k, y < k → k ≤ j → at0 r a ≤ at0 r k) ∧ (i ≤ y → at0 r y < at0 r a)) := by
  refine loop_os (fun y : Int => i - 1 ≤ y ∧ y ≤ j ∧ ∀ k, y < k → k ≤ j → at0 r a ≤ at0 r k) (fun y => (y + 1 - i).toNat) _ ⟨by omega, Int.le_refl _, fun k h1 h2 => by omega⟩ (by omega) ?_
  rintro y ⟨h1, h2, h3⟩
  unfold slices_partitionOrdered_l5_T
  refine TS.br (fun hc => ?_) (fun hc => ?_)
  · rw [leI_iff] at hc
    refine TS.brT (by rw [inRange_iff]; omega) (TS.brT (by rw [inRange_iff]; omega) (TS.less (fun hlt => ?_) (fun hge => ?_)))
    · exact TS.brF rfl (TS.ret ⟨h1, h2, h3, fun _ => hlt⟩)
    · simp (disch := omega) only [i64_in]
      refine TS.brT rfl (TS.ret ⟨⟨by omega, by omega, fun k g1 g2 => ?_⟩, by omega⟩)
      by_cases e : k = y
      · subst e; exact hge
      · exact h3 k (by omega) g2
  · have hc' : ¬ i ≤ y := by rw [← leI_iff, hc]; simp
    exact TS.ret ⟨h1, h2, h3, fun h => absurd h hc'⟩

/-- What is known between: the pivot at a, the smaller ones below i, the others above j. -/
def PaI (l : List Int) (a b p i j : Int) (r : List Int) : Prop :=
  Sw a b l r ∧ at0 r a = at0 l p ∧ (∀ k, a < k → k < i → at0 r k < at0 l p) ∧ ∀ k, j < k → k < b → at0 l p ≤ at0 r k

theorem pa_round {l : List Int} (hl : l.length = n) {p i j : Int} {r : List Int} (h : PaI l a b p i j r) (hi : a < i) (hij : i ≤ j + 1) (hj : j < b) :
    OS (slices_partitionOrdered_l3 N a j r i) (fun y1 => OS (slices_partitionOrdered_l5 N a y1 r j) (fun y2 => i ≤ y1 ∧ y1 ≤ j + 1 ∧ y1 - 1 ≤ y2 ∧ y2 ≤ j ∧ PaI l a b p y1 y2 r ∧ (y1 ≤ y2 → y1 < y2 ∧ PaI l a b p (y1 + 1) (y2 - 1) (swp r y1 y2)))) := by
  obtain ⟨h4, h5, h6, h7⟩ := h
  have hr : r.length = n := h4.len.trans hl
  refine OS.mono (pa_l3 N hn hN ha hb hr hi hij hj) (fun y1 hy1 => OS.mono (pa_l5 N hn hN ha hb hr (i := y1) (by omega) hy1.2.1 hj) (fun y2 hy2 => ?_))
  obtain ⟨p1, p2, p3, p4⟩ := hy1
  obtain ⟨q1, q2, q3, q4⟩ := hy2
  rw [h5] at p3 p4 q3 q4
  have low : ∀ k, a < k → k < y1 → at0 r k < at0 l p := fun k g1 g2 => by
    by_cases e : k < i
    · exact h6 k g1 e
    · exact p3 k (by omega) g2
  have high : ∀ k, y2 < k → k < b → at0 l p ≤ at0 r k := fun k g1 g2 => by
    by_cases e : k ≤ j
    · exact q3 k g1 e
    · exact h7 k (by omega) g2
  refine ⟨p1, p2, q1, q2, ⟨h4, h5, low, high⟩, fun hle => ?_⟩
  have g1 := p4 (by omega)
  have g2 := q4 (by omega)
  have hne : y1 ≠ y2 := fun e => by subst e; omega
  have hs : ∀ k, 0 ≤ k → at0 (swp r y1 y2) k = if k = y2 then at0 r y1 else if k = y1 then at0 r y2 else at0 r k := fun k hk => swp_at (by omega) (by omega) (by omega) (by omega) hk
  refine ⟨by omega, .step y1 y2 h4 (by omega) (by omega), ?_, fun k e1 e2 => ?_, fun k e1 e2 => ?_⟩
  · rw [hs a ha, if_neg (by omega), if_neg (by omega)]
    exact h5
  · rw [hs k (by omega), if_neg (by omega)]
    split
    · exact g2
    · exact low k e1 (by omega)
  · rw [hs k (by omega)]
    split
    · exact g1
    · rw [if_neg (by omega)]; exact high k (by omega) e2

omit hn hN in
/-- The pivot goes between. -/
theorem pa_last {l : List Int} (hl : l.length = n) {p j : Int} {r : List Int} (h : PaI l a b p (j + 1) j r) (hj : a ≤ j) (hjb : j < b) :
    Sw a b l (swp r j a) ∧ (∀ k, a ≤ k → k < j → at0 (swp r j a) k ≤ at0 (swp r j a) j) ∧ ∀ k, j < k → k < b → at0 (swp r j a) j ≤ at0 (swp r j a) k := by
  obtain ⟨h4, h5, h6, h7⟩ := h
  have hr : r.length = n := h4.len.trans hl
  have hs : ∀ k, 0 ≤ k → at0 (swp r j a) k = if k = a then at0 r j else if k = j then at0 r a else at0 r k := fun k hk => swp_at (by omega) (by omega) (by omega) (by omega) hk
  have ej : at0 (swp r j a) j = at0 l p := by
    rw [hs j (by omega)]
    by_cases e : j = a
    · rw [if_pos e, e]; exact h5
    · rw [if_neg e, if_pos rfl]; exact h5
  rw [ej]
  refine ⟨.step j a h4 (by omega) (by omega), fun k e1 e2 => ?_, fun k e1 e2 => ?_⟩
  · rw [hs k (by omega)]
    by_cases e : k = a
    · rw [if_pos e]; exact Int.le_of_lt (h6 j (by omega) (by omega))
    · rw [if_neg e, if_neg (by omega)]; exact Int.le_of_lt (h6 k (by omega) (by omega))
  · rw [hs k (by omega), if_neg (by omega), if_neg (by omega)]
    exact h7 k e1 e2

theorem pa_ok {l : List Int} (hl : l.length = n) {p : Int} (hp : a ≤ p ∧ p < b) :
    OS (slices_partitionOrdered N a b p l) (fun y => a ≤ y.1 ∧ y.1 < b ∧ Sw a b l y.2.2 ∧ (∀ k, a ≤ k → k < y.1 → at0 y.2.2 k ≤ at0 y.2.2 y.1) ∧ ∀ k, y.1 < k → k < b → at0 y.2.2 y.1 ≤ at0 y.2.2 k) := by
  unfold slices_partitionOrdered
  refine OS.of ?_
  unfold slices_partitionOrdered_T
  have e1 : IntKind.i64.wrap (a + 1) = a + 1 := i64_in (by omega)
  have e2 : IntKind.i64.wrap (b - 1) = b - 1 := i64_in (by omega)
  dsimp only
  rw [e1, e2]
  have h0 : PaI l a b p (a + 1) (b - 1) (swp l a p) := by
    refine ⟨.one l a p (by omega) (by omega), ?_, fun k g1 g2 => by omega, fun k g1 g2 => by omega⟩
    rw [swp_at ha (by omega) (by omega) (by omega) ha]
    by_cases e : a = p
    · rw [if_pos e, e]
    · rw [if_neg e, if_pos rfl]
  refine TS.brT (by rw [inRange_iff]; omega) (TS.brT (by rw [inRange_iff]; omega) (TS.brT (by rw [inRange_iff]; omega) (TS.brT (by rw [inRange_iff, List.length_set]; omega) ?_)))
  show TS (Tree.call (slices_partitionOrdered_l3 N a (b - 1) (swp l a p) (a + 1)) _) _
  have hlen : (swp l a p).length = n := by rw [swp_len]; exact hl
  refine TS.call (pa_round N hn hN ha hb hl h0 (by omega) (by omega) (by omega)) (fun y1 hy1 => TS.call hy1 (fun y2 hy2 => ?_))
  obtain ⟨g1, g2, g3, g4, g5, g6⟩ := hy2
  refine TS.br (fun hc => ?_) (fun hc => ?_)
  · rw [ltI_iff] at hc
    have e : y1 = y2 + 1 := by omega
    subst e
    obtain ⟨k1, k2, k3⟩ := pa_last ha hb hl g5 (by omega) (by omega)
    exact swap_ts (l := swp l a p) (i := y2) (j := a) (f := fun x => Tree.ret (y2, true, x)) (by omega) (by omega) (TS.ret ⟨by dsimp only; omega, by dsimp only; omega, k1, k2, k3⟩)
  · have hc' : ¬ y2 < y1 := by rw [← ltI_iff, hc]; simp
    obtain ⟨g7, g8⟩ := g6 (by omega)
    have e3 : IntKind.i64.wrap (y1 + 1) = y1 + 1 := i64_in (by omega)
    have e4 : IntKind.i64.wrap (y2 - 1) = y2 - 1 := i64_in (by omega)
    rw [e3, e4]
    have hloop : OS (slices_partitionOrdered_l10013 N a (y1 + 1, y2 - 1, swp (swp l a p) y1 y2)) (fun y => a ≤ y.1 ∧ y.1 < b ∧ PaI l a b p (y.1 + 1) y.1 y.2) := by
      refine loop_os (fun x : Int × Int × List Int => a < x.1 ∧ x.1 ≤ x.2.1 + 1 ∧ x.2.1 < b ∧ PaI l a b p x.1 x.2.1 x.2.2) (fun x => (x.2.1 + 2 - x.1).toNat) _ ⟨by dsimp only; omega, by dsimp only; omega, by dsimp only; omega, g8⟩ (by dsimp only; omega) ?_
      rintro ⟨i, j, r⟩ ⟨h1, h2, h3, h4⟩
      dsimp only at h1 h2 h3 h4 ⊢
      have hr : r.length = n := h4.1.len.trans hl
      unfold slices_partitionOrdered_l10013_T
      refine TS.call (pa_round N hn hN ha hb hl h4 h1 h2 h3) (fun y1 hy1 => TS.call hy1 (fun y2 hy2 => ?_))
      obtain ⟨g1, g2, g3, g4, g5, g6⟩ := hy2
      refine TS.br (fun hc => ?_) (fun hc => ?_)
      · rw [ltI_iff] at hc
        have e : y1 = y2 + 1 := by omega
        subst e
        exact TS.ret ⟨by dsimp only; omega, by dsimp only; omega, g5⟩
      · have hc' : ¬ y2 < y1 := by rw [← ltI_iff, hc]; simp
        obtain ⟨g7, g8⟩ := g6 (by omega)
        have e3 : IntKind.i64.wrap (y1 + 1) = y1 + 1 := i64_in (by omega)
        have e4 : IntKind.i64.wrap (y2 - 1) = y2 - 1 := i64_in (by omega)
        dsimp only
        rw [e3, e4]
        exact swap_ts (l := r) (i := y1) (j := y2) (f := fun x => Tree.ret (Sum.inl (y1 + 1, y2 - 1, x))) (by omega) (by omega) (TS.ret ⟨⟨by dsimp only; omega, by dsimp only; omega, by dsimp only; omega, g8⟩, by dsimp only; omega⟩)
    refine swap_ts (l := swp l a p) (i := y1) (j := y2) (f := fun x => Tree.call (slices_partitionOrdered_l10013 N a (y1 + 1, y2 - 1, x)) _) (by omega) (by omega) (TS.call hloop (fun y hy => ?_))
    obtain ⟨k1, k2, k3⟩ := hy
    have hr : y.2.length = n := k3.1.len.trans hl
    obtain ⟨m1, m2, m3⟩ := pa_last ha hb hl k3 k1 k2
    exact swap_ts (l := y.2) (i := y.1) (j := a) (f := fun x => Tree.ret (y.1, false, x)) (by omega) (by omega) (TS.ret ⟨by dsimp only; omega, by dsimp only; omega, m1, m2, m3⟩)
end
end Go.Proofs.YtkcimijkcmoonaaDoorV
