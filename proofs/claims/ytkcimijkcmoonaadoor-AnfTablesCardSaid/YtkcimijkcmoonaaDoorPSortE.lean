/- A range that is nearly sorted; patterns broken; pivots. -/
import Derived.Test.YtkcimijkcmoonaaDoorPSortD
namespace Go.Proofs.YtkcimijkcmoonaaDoorV
set_option linter.unusedVariables false
set_option linter.unusedSimpArgs false

section
variable (N : Nat) {n : Nat} (hn : (n : Int) < 140737488355328) (hN : n + 100 < N) {a b : Int} (ha : 0 ≤ a) (hb : b ≤ n)
include hn hN ha hb

omit hn hN in
theorem LB.sw {l r : List Int} (hl : l.length = n) (h : LB a b l) (hs : Sw a b l r) : LB a b r := by
  intro h0 k h1 h2
  rw [Sw.frame ha (by omega) hs (by omega) (.inl (by omega))]
  exact Sw.all (P := fun v => at0 l (a - 1) ≤ v) ha (by omega) hs (fun k g1 g2 => h h0 k g1 g2) k h1 h2

theorem pi_l5 {r : List Int} (hr : r.length = n) {i : Int} (hi : a < i) (hib : i ≤ b) (h : Sd a i r) :
    OS (slices_partialInsertionSortOrdered_l5 N b r i) (fun y => i ≤ y ∧ y ≤ b ∧ Sd a y r ∧ (y < b → at0 r y < at0 r (y - 1))) := by
  refine loop_os (fun y : Int => i ≤ y ∧ y ≤ b ∧ Sd a y r) (fun y => (b - y).toNat) _ ⟨Int.le_refl _, hib, h⟩ (by omega) ?_
  rintro y ⟨h1, h2, h3⟩
  unfold slices_partialInsertionSortOrdered_l5_T
  simp (disch := omega) only [i64_in]
  refine TS.br (fun hc => ?_) (fun hc => ?_)
  · rw [ltI_iff] at hc
    refine TS.brT (by rw [inRange_iff]; omega) (TS.brT (by rw [inRange_iff]; omega) (TS.less (fun hlt => ?_) (fun hge => ?_)))
    · exact TS.brF rfl (TS.ret ⟨h1, h2, h3, fun _ => hlt⟩)
    · refine TS.brT rfl (TS.ret ⟨⟨by omega, by omega, fun p q g1 g2 g3 => ?_⟩, by omega⟩)
      by_cases e : q = y
      · subst e
        by_cases e2 : p = q
        · subst e2; exact Int.le_refl _
        · exact Int.le_trans (h3 p (q - 1) g1 (by omega) (by omega)) hge
      · exact h3 p q g1 g2 (by omega)
  · have hc' : ¬ y < b := by rw [← ltI_iff, hc]; simp
    exact TS.ret ⟨h1, h2, h3, fun h => absurd h hc'⟩

theorem pi_l14 {l : List Int} (hl : l.length = n) (hLB : LB a b l) {i : Int} (hi : a ≤ i) (hib : i < b) (h : But a i i l) : OS (slices_partialInsertionSortOrdered_l14 N (i, l)) (fun r => Sw a b l r ∧ Sd a (i + 1) r ∧ ∀ k, i < k → at0 r k = at0 l k) := by
  refine loop_os (fun x : Int × List Int => a ≤ x.1 ∧ x.1 ≤ i ∧ Sw a b l x.2 ∧ But a i x.1 x.2 ∧ ∀ k, i < k → at0 x.2 k = at0 l k) (fun x => (x.1 - a).toNat) _ ⟨hi, Int.le_refl _, .refl _, h, fun _ _ => rfl⟩ (by dsimp only; omega) ?_
  rintro ⟨j, r⟩ ⟨h1, h2, h3, h4, h5⟩
  dsimp only at h1 h2 h3 h4 h5 ⊢
  have hr := h3.len
  have hLr := LB.sw ha hb hl hLB h3
  unfold slices_partialInsertionSortOrdered_l14_T
  simp (disch := omega) only [i64_in]
  refine TS.br (fun hc => ?_) (fun hc => ?_)
  · rw [leI_iff] at hc
    refine TS.brT (by rw [inRange_iff]; omega) (TS.brT (by rw [inRange_iff]; omega) (TS.less (fun hlt => ?_) (fun hge => ?_)))
    · have hj : a < j := by
        rcases Int.lt_or_le a j with h | h
        · exact h
        · have e : j = a := by omega
          subst e
          have := hLr (by omega) j (Int.le_refl _) (by omega)
          have hlt' : at0 r j < at0 r (j - 1) := hlt
          omega
      refine TS.brF rfl (swap_ts (l := r) (i := j) (j := j - 1) (f := fun x => Tree.ret (Sum.inl (j - 1, x))) (by omega) (by omega) (TS.ret ⟨⟨by dsimp only; omega, by dsimp only; omega, .step j (j - 1) h3 (by omega) (by omega), But.step ha hb (by omega) hj h2 hib h4 hlt, fun k hk => ?_⟩, by dsimp only; omega⟩))
      dsimp only
      rw [swp_at (by omega) (by omega) (by omega) (by omega) (by omega), if_neg (by omega), if_neg (by omega)]
      exact h5 k hk
    · exact TS.brT rfl (TS.ret ⟨h3, But.done h2 h4 (.inr hge), h5⟩)
  · have hc' : ¬ 1 ≤ j := by rw [← leI_iff, hc]; simp
    exact TS.ret ⟨h3, But.done h2 h4 (.inl (by omega)), h5⟩

theorem pi_j18 {l : List Int} (hl : l.length = n) {i : Int} (hi : a < i) (hib : i < b) : OS (slices_partialInsertionSortOrdered_j18 N b i l) (fun r => Sw a b l r ∧ ∀ k, 0 ≤ k → k < i → at0 r k = at0 l k) := by
  unfold slices_partialInsertionSortOrdered_j18
  refine OS.of ?_
  unfold slices_partialInsertionSortOrdered_j18_T
  simp (disch := omega) only [i64_in]
  refine TS.br (fun hc => ?_) (fun hc => TS.ret ⟨.refl _, fun _ _ _ => rfl⟩)
  have hloop : OS (slices_partialInsertionSortOrdered_l20 N b (i + 1, l)) (fun r => Sw a b l r ∧ ∀ k, 0 ≤ k → k < i → at0 r k = at0 l k) := by
    refine loop_os (fun x : Int × List Int => i < x.1 ∧ Sw a b l x.2 ∧ ∀ k, 0 ≤ k → k < i → at0 x.2 k = at0 l k) (fun x => (b - x.1).toNat) _ ⟨by dsimp only; omega, .refl _, fun _ _ _ => rfl⟩ (by dsimp only; omega) ?_
    rintro ⟨j, r⟩ ⟨h1, h3, h5⟩
    dsimp only at h1 h3 h5 ⊢
    have hr := h3.len
    unfold slices_partialInsertionSortOrdered_l20_T
    refine TS.br (fun hc => ?_) (fun hc => TS.ret ⟨h3, h5⟩)
    rw [ltI_iff] at hc
    simp (disch := omega) only [i64_in]
    refine TS.brT (by rw [inRange_iff]; omega) (TS.brT (by rw [inRange_iff]; omega) (TS.less (fun hlt => ?_) (fun hge => ?_)))
    · refine TS.brF rfl (swap_ts (l := r) (i := j) (j := j - 1) (f := fun x => Tree.ret (Sum.inl (j + 1, x))) (by omega) (by omega) (TS.ret ⟨⟨by dsimp only; omega, .step j (j - 1) h3 (by omega) (by omega), fun k hk hk' => ?_⟩, by dsimp only; omega⟩))
      dsimp only
      rw [swp_at (by omega) (by omega) (by omega) (by omega) hk, if_neg (by omega), if_neg (by omega)]
      exact h5 k hk hk'
    · exact TS.brT rfl (TS.ret ⟨h3, h5⟩)
  exact TS.call hloop (fun y hy => TS.ret hy)

theorem pi_ok {l : List Int} (hl : l.length = n) (hab : a < b) (hLB : LB a b l) : OS (slices_partialInsertionSortOrdered N a b l) (fun y => Sw a b l y.2 ∧ (y.1 = true → Sd a b y.2)) := by
  unfold slices_partialInsertionSortOrdered
  refine OS.of ?_
  unfold slices_partialInsertionSortOrdered_T
  simp (disch := omega) only [i64_in]
  have hloop : OS (slices_partialInsertionSortOrdered_l3 N a b (a + 1, 0, l)) (EP (fun y => Sw a b l y.2 ∧ (y.1 = true → Sd a b y.2)) (fun y => Sw a b l y)) := by
    refine loop_os (fun x : Int × Int × List Int => a < x.1 ∧ x.1 ≤ b ∧ 0 ≤ x.2.1 ∧ x.2.1 ≤ 5 ∧ Sw a b l x.2.2 ∧ Sd a x.1 x.2.2) (fun x => (6 - x.2.1).toNat) _ ⟨by dsimp only; omega, by dsimp only; omega, Int.le_refl _, by dsimp only; omega, .refl _, fun p q g1 g2 g3 => ?_⟩ (by dsimp only; omega) ?_
    · dsimp only at g3
      have : p = q := by omega
      subst this; exact Int.le_refl _
    · rintro ⟨i, s, r⟩ ⟨h1, h2, h3, h4, h5, h6⟩
      dsimp only at h1 h2 h3 h4 h5 h6 ⊢
      have hr : r.length = n := h5.len.trans hl
      have hLr := LB.sw ha hb hl hLB h5
      unfold slices_partialInsertionSortOrdered_l3_T
      refine TS.br (fun hc => ?_) (fun hc => TS.ret h5)
      rw [ltI_iff] at hc
      refine TS.call (pi_l5 N hn hN ha hb hr h1 h2 h6) (fun y hy => ?_)
      obtain ⟨g1, g2, g3, g4⟩ := hy
      refine TS.br (fun he => ?_) (fun he => ?_)
      · have e : y = b := by simpa using he
        subst e
        exact TS.ret ⟨h5, fun _ => g3⟩
      · have hyb : y < b := by
          have : y ≠ b := by simpa using he
          omega
        refine TS.br (fun _ => TS.ret ⟨h5, fun h => by cases h⟩) (fun _ => ?_)
        have hlt := g4 hyb
        have hs : ∀ k, 0 ≤ k → at0 (swp r y (y - 1)) k = if k = y - 1 then at0 r y else if k = y then at0 r (y - 1) else at0 r k := fun k hk => swp_at (by omega) (by omega) (by omega) (by omega) hk
        have hsw : Sw a b r (swp r y (y - 1)) := .one r y (y - 1) (by omega) (by omega)
        simp (disch := omega) only [i64_in]
        refine swap_ts (l := r) (i := y) (j := y - 1) (f := fun x => Tree.br (leI 2 (y - a)) (Tree.call (slices_partialInsertionSortOrdered_l14 N (y - 1, x)) fun y15 => Tree.call (slices_partialInsertionSortOrdered_j18 N b y y15) fun y16 => Tree.ret (Sum.inl (y, s + 1, y16)))
          (Tree.call (slices_partialInsertionSortOrdered_j18 N b y x) fun y18 => Tree.ret (Sum.inl (y, s + 1, y18)))) (by omega) (by omega) ?_
        have hlen : (swp r y (y - 1)).length = n := by rw [swp_len]; exact hr
        refine TS.br (fun h2y => ?_) (fun h2y => ?_)
        · rw [leI_iff] at h2y
          have hbut : But a (y - 1) (y - 1) (swp r y (y - 1)) := by
            refine ⟨fun p q e1 e2 e3 e4 e5 => ?_, fun q e1 e2 => by omega⟩
            rw [hs p (by omega), hs q (by omega), if_neg e4, if_neg e5, if_neg (by omega), if_neg (by omega)]
            exact g3 p q e1 e2 (by omega)
          refine TS.call (pi_l14 N hn hN ha hb hlen (LB.sw ha hb hr hLr hsw) (by omega) (by omega) hbut) (fun z hz => ?_)
          obtain ⟨z1, z2, z3⟩ := hz
          have hzl : z.length = n := z1.len.trans hlen
          refine TS.call (pi_j18 N hn hN ha hb hzl (by omega) hyb) (fun w hw => ?_)
          refine TS.ret ⟨⟨by dsimp only; omega, by dsimp only; omega, by dsimp only; omega, by dsimp only; omega, ((h5.trans hsw).trans z1).trans hw.1, fun p q e1 e2 e3 => ?_⟩, by dsimp only; omega⟩
          dsimp only at e3 ⊢
          rw [hw.2 p (by omega) (by omega), hw.2 q (by omega) (by omega)]
          exact z2 p q e1 e2 (by omega)
        · have hc' : ¬ 2 ≤ y - a := by rw [← leI_iff, h2y]; simp
          refine TS.call (pi_j18 N hn hN ha hb hlen (by omega) hyb) (fun w hw => ?_)
          refine TS.ret ⟨⟨by dsimp only; omega, by dsimp only; omega, by dsimp only; omega, by dsimp only; omega, (h5.trans hsw).trans hw.1, fun p q e1 e2 e3 => ?_⟩, by dsimp only; omega⟩
          dsimp only at e3 ⊢
          have : p = q := by omega
          subst this; exact Int.le_refl _
  refine TS.call hloop (fun y hy => ?_)
  cases y with
  | inl y => exact TS.ret hy
  | inr y => exact TS.ret ⟨hy, fun h => by cases h⟩
end
end Go.Proofs.YtkcimijkcmoonaaDoorV
