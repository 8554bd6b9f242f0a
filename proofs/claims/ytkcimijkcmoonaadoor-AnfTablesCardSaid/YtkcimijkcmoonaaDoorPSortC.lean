/- Sorting by a heap. -/
import Derived.Test.YtkcimijkcmoonaaDoorPSortB
namespace Go.Proofs.YtkcimijkcmoonaaDoorV
set_option linter.unusedVariables false
set_option linter.unusedSimpArgs false

/-- Parents from lo on are not less than their children. -/
def Hp (f lo hi : Int) (l : List Int) : Prop := ∀ p c, lo ≤ p → (c = 2 * p + 1 ∨ c = 2 * p + 2) → c < hi → at0 l (f + c) ≤ at0 l (f + p)
/-- The same but for one parent. -/
def HpB (f lo hi root : Int) (l : List Int) : Prop :=
  (∀ p c, lo ≤ p → p ≠ root → (c = 2 * p + 1 ∨ c = 2 * p + 2) → c < hi → at0 l (f + c) ≤ at0 l (f + p)) ∧
  ∀ p c, lo ≤ p → (root = 2 * p + 1 ∨ root = 2 * p + 2) → (c = 2 * root + 1 ∨ c = 2 * root + 2) → c < hi → at0 l (f + c) ≤ at0 l (f + p)

theorem Hp.top {f hi : Int} {l : List Int} (h : Hp f 0 hi l) : ∀ (n : Nat) (p : Int), p.toNat = n → 0 ≤ p → p < hi → at0 l (f + p) ≤ at0 l f := by
  intro n
  induction n using Nat.strongRecOn with
  | _ n ih =>
    intro p hn hp hlt
    by_cases h0 : p = 0
    · subst h0; rw [Int.add_zero]; exact Int.le_refl _
    · have e := ih ((p - 1) / 2).toNat (by omega) ((p - 1) / 2) rfl (by omega) (by omega)
      exact Int.le_trans (h ((p - 1) / 2) p (by omega) (by omega) hlt) e

theorem HpB.step {f lo hi root c : Int} {r : List Int} (hf : 0 ≤ f) (hlo : 0 ≤ lo) (hroot : lo ≤ root) (hlen : f + hi ≤ r.length) (h : HpB f lo hi root r) (hc : c = 2 * root + 1 ∨ c = 2 * root + 2) (hch : c < hi)
    (hmax : ∀ d, (d = 2 * root + 1 ∨ d = 2 * root + 2) → d < hi → at0 r (f + d) ≤ at0 r (f + c)) (hlt : at0 r (f + root) < at0 r (f + c)) : HpB f lo hi c (swp r (f + root) (f + c)) := by
  obtain ⟨h1, h2⟩ := h
  have hs : ∀ k, 0 ≤ k → at0 (swp r (f + root) (f + c)) (f + k) = if k = c then at0 r (f + root) else if k = root then at0 r (f + c) else at0 r (f + k) := fun k hk => by
    rw [swp_at (by omega) (by omega) (by omega) (by omega) (by omega)]
    by_cases e : k = c
    · rw [if_pos (by omega), if_pos e]
    · rw [if_neg (by omega), if_neg e]
      by_cases e : k = root
      · rw [if_pos (by omega), if_pos e]
      · rw [if_neg (by omega), if_neg e]
  refine ⟨fun p d hp hpc hd hdh => ?_, fun p d hp hcp hd hdh => ?_⟩
  · rw [hs d (by omega), hs p (by omega), if_neg hpc]
    by_cases e : p = root
    · subst e
      rw [if_pos rfl]
      by_cases e2 : d = c
      · rw [if_pos e2]; omega
      · rw [if_neg e2, if_neg (by omega)]; exact hmax d hd hdh
    · rw [if_neg e]
      by_cases e2 : d = c
      · omega
      · rw [if_neg e2]
        by_cases e3 : d = root
        · rw [if_pos e3]; exact h2 p c hp (by omega) hc hch
        · rw [if_neg e3]; exact h1 p d hp e hd hdh
  · have e : p = root := by omega
    subst e
    rw [hs d (by omega), hs p (by omega), if_neg (by omega), if_pos rfl, if_neg (by omega), if_neg (by omega)]
    exact h1 c d (by omega) (by omega) hd hdh

section
variable (N : Nat) {n : Nat} (hn : (n : Int) < 1152921504606846976) (hN : n + 2 < N)
include hn hN

omit hN in
theorem sift_j5 {f root c hi : Int} {r : List Int} (hr : r.length = n) (hf : 0 ≤ f) (hroot : 0 ≤ root) (hc : 0 ≤ c) (h1 : root < hi) (h2 : c < hi) (hb : f + hi ≤ n) :
    (at0 r (f + c) ≤ at0 r (f + root) ∧ slices_siftDownOrdered_j5 N f root c r = some (.inl ())) ∨ (at0 r (f + root) < at0 r (f + c) ∧ slices_siftDownOrdered_j5 N f root c r = some (.inr (swp r (f + root) (f + c)))) := by
  unfold slices_siftDownOrdered_j5 slices_siftDownOrdered_j5_T
  simp (disch := omega) only [i64_in]
  by_cases h : at0 r (f + root) < at0 r (f + c)
  · refine .inr ⟨h, ?_⟩
    have : TS (α := Unit ⊕ List Int) (.br (inRange (f + c) r.length) (.br (inRange (f + root) r.length) (.br (inRange (f + root) r.length) (.br (inRange (f + c) (r.set (f + root).toNat (r.getD (f + c).toNat 0)).length) (.ret (.inr ((r.set (f + root).toNat (r.getD (f + c).toNat 0)).set (f + c).toNat (r.getD (f + root).toNat 0)))) .fail) .fail) .fail) .fail) (fun y => y = .inr (swp r (f + root) (f + c))) :=
      swap_ts (l := r) (i := f + root) (j := f + c) (f := fun x => Tree.ret (Sum.inr x)) (by omega) (by omega) (TS.ret rfl)
    obtain ⟨y, hy, rfl⟩ := this
    have hc1 : inRange (f + root) r.length = true := by rw [inRange_iff]; omega
    have hc2 : inRange (f + c) r.length = true := by rw [inRange_iff]; omega
    have hlt : ltI (r.getD (f + root).toNat 0) (r.getD (f + c).toNat 0) = true := by rw [ltI_iff]; exact h
    simp only [run_br, run_call, less_eq, hc1, hc2, hlt, Option.bind_some, if_true, Bool.not_true, Bool.false_eq_true, if_false] at hy ⊢
    exact hy
  · refine .inl ⟨by omega, ?_⟩
    have hc1 : inRange (f + root) r.length = true := by rw [inRange_iff]; omega
    have hc2 : inRange (f + c) r.length = true := by rw [inRange_iff]; omega
    have hlt : ltI (r.getD (f + root).toNat 0) (r.getD (f + c).toNat 0) = false := by rw [ltI_eq, decide_eq_false_iff_not]; exact h
    simp only [run_br, run_call, less_eq, hc1, hc2, hlt, Option.bind_some, if_true, Bool.not_false, run_ret]

theorem sift_ok {f lo hi : Int} {l : List Int} (hl : l.length = n) (hf : 0 ≤ f) (hlo : 0 ≤ lo) (hlon : lo ≤ n) (hb : f + hi ≤ n) (h : Hp f (lo + 1) hi l) :
    OS (slices_siftDownOrdered N lo hi f l) (fun r => Sw f (f + hi) l r ∧ Hp f lo hi r) := by
  unfold slices_siftDownOrdered
  refine OS.of ?_
  unfold slices_siftDownOrdered_T
  have hloop : OS (slices_siftDownOrdered_l1 N hi f (lo, l)) (EP (fun r => Sw f (f + hi) l r ∧ Hp f lo hi r) (fun r => Sw f (f + hi) l r ∧ Hp f lo hi r)) := by
    refine loop_os (fun x : Int × List Int => lo ≤ x.1 ∧ x.1 ≤ n ∧ Sw f (f + hi) l x.2 ∧ HpB f lo hi x.1 x.2) (fun x => (hi - x.1).toNat) _ ⟨Int.le_refl _, hlon, .refl _, fun p c h1 h2 h3 h4 => h p c (by dsimp only at h2; omega) h3 h4, fun p c h1 h2 h3 h4 => by dsimp only at h2; omega⟩ (by dsimp only; omega) ?_
    rintro ⟨root, r⟩ ⟨h1, h1', h2, h3⟩
    dsimp only at h1 h1' h2 h3 ⊢
    have hr := h2.len
    unfold slices_siftDownOrdered_l1_T
    simp (disch := omega) only [i64_in]
    refine TS.br (fun hc => ?_) (fun hc => ?_)
    · rw [leI_iff] at hc
      refine TS.ret ⟨h2, fun p c e1 e2 e3 => ?_⟩
      by_cases e : p = root
      · omega
      · exact h3.1 p c e1 e e2 e3
    · have hc' : 2 * root + 1 < hi := by
        have : ¬ hi ≤ 2 * root + 1 := by rw [← leI_iff, hc]; simp
        omega
      -- with the greater child c
      have one : ∀ c, (c = 2 * root + 1 ∨ c = 2 * root + 2) → c < hi → (∀ d, (d = 2 * root + 1 ∨ d = 2 * root + 2) → d < hi → at0 r (f + d) ≤ at0 r (f + c)) →
          TS (.call (slices_siftDownOrdered_j5 N f root c r) fun y13 => .alt y13 (fun y14 => .ret (.inr (.inr r))) (fun y15 => .ret (.inl (c, y15))))
            (EP (fun x' : Int × List Int => (lo ≤ x'.1 ∧ x'.1 ≤ n ∧ Sw f (f + hi) l x'.2 ∧ HpB f lo hi x'.1 x'.2) ∧ (hi - x'.1).toNat < (hi - root).toNat) (EP (fun r => Sw f (f + hi) l r ∧ Hp f lo hi r) (fun r => Sw f (f + hi) l r ∧ Hp f lo hi r))) := by
        intro c hcc hch hmax
        rcases sift_j5 N hn (root := root) (c := c) (hi := hi) (hr.trans hl) hf (by omega) (by omega) (by omega) hch hb with ⟨e1, e2⟩ | ⟨e1, e2⟩
        · rw [e2]
          refine TS.callS (PA := fun _ => True) (PB := fun _ => False) (.inl ⟨_, rfl, trivial⟩) (fun _ _ => TS.ret ⟨h2, fun p d g1 g2 g3 => ?_⟩) (fun _ h => h.elim)
          by_cases e : p = root
          · subst e; exact Int.le_trans (hmax d g2 g3) e1
          · exact h3.1 p d g1 e g2 g3
        · rw [e2]
          refine TS.callS (PA := fun _ => False) (PB := fun x => x = swp r (f + root) (f + c)) (.inr ⟨_, rfl, rfl⟩) (fun _ h => h.elim) (fun x hx => ?_)
          subst hx
          refine TS.ret ⟨⟨by dsimp only; omega, by dsimp only; omega, .step _ _ h2 (by omega) (by omega), HpB.step hf hlo h1 (by omega) h3 hcc hch hmax e1⟩, by dsimp only; omega⟩
      refine TS.br (fun hd => ?_) (fun hd => ?_)
      · rw [ltI_iff] at hd
        simp (disch := omega) only [i64_in]
        refine TS.brT (by rw [inRange_iff]; omega) (TS.brT (by rw [inRange_iff]; omega) (TS.less (fun hlt => ?_) (fun hge => ?_)))
        · refine TS.brT rfl (one (2 * root + 1 + 1) (by omega) (by omega) (fun d g1 g2 => ?_))
          have hlt' : at0 r (f + (2 * root + 1)) < at0 r (f + (2 * root + 1) + 1) := hlt
          have e : f + (2 * root + 1) + 1 = f + (2 * root + 1 + 1) := by omega
          rw [e] at hlt'
          rcases g1 with rfl | rfl
          · omega
          · have : 2 * root + 2 = 2 * root + 1 + 1 := by omega
            rw [this]; exact Int.le_refl _
        · refine TS.brF rfl (one (2 * root + 1) (by omega) (by omega) (fun d g1 g2 => ?_))
          have hge' : at0 r (f + (2 * root + 1) + 1) ≤ at0 r (f + (2 * root + 1)) := hge
          have e : f + (2 * root + 1) + 1 = f + (2 * root + 2) := by omega
          rw [e] at hge'
          rcases g1 with rfl | rfl
          · exact Int.le_refl _
          · exact hge'
      · have hd' : ¬ 2 * root + 1 + 1 < hi := by rw [← ltI_iff, hd]; simp
        refine one (2 * root + 1) (by omega) (by omega) (fun d g1 g2 => ?_)
        rcases g1 with rfl | rfl
        · exact Int.le_refl _
        · omega
  refine TS.call hloop (fun y hy => ?_)
  cases y with
  | inl r => exact TS.ret hy
  | inr r => exact TS.ret hy

theorem heap_ok {a b : Int} {l : List Int} (hl : l.length = n) (ha : 0 ≤ a) (hab : a ≤ b) (hb : b ≤ n) : OS (slices_heapSortOrdered N a b l) (fun r => Sw a b l r ∧ Sd a b r) := by
  unfold slices_heapSortOrdered
  refine OS.of ?_
  unfold slices_heapSortOrdered_T
  simp (disch := omega) only [i64_in]
  obtain ⟨m, hm, hm1⟩ : ∃ m, (b - a - 1).tdiv 2 = m ∧ (m = 0 ∧ b - a ≤ 2 ∨ m = (b - a - 1) / 2 ∧ 1 ≤ b - a) := by
    by_cases h : b - a - 1 < 0
    · have : b - a - 1 = -1 := by omega
      rw [this]; exact ⟨0, rfl, .inl ⟨rfl, by omega⟩⟩
    · exact ⟨_, Int.tdiv_eq_ediv_of_nonneg (by omega), .inr ⟨rfl, by omega⟩⟩
  rw [hm]
  simp (disch := omega) only [i64_in]
  have loop1 : OS (slices_heapSortOrdered_l4 N a (b - a) (m, l)) (fun r => Sw a b l r ∧ Hp a 0 (b - a) r) := by
    refine loop_os (fun x : Int × List Int => -1 ≤ x.1 ∧ x.1 ≤ m ∧ Sw a b l x.2 ∧ Hp a (x.1 + 1) (b - a) x.2) (fun x => (x.1 + 1).toNat) _ ⟨by dsimp only; omega, Int.le_refl _, .refl _, fun p c h1 h2 h3 => by dsimp only at h1; omega⟩ (by dsimp only; omega) ?_
    rintro ⟨i, r⟩ ⟨h1, h2, h3, h4⟩
    dsimp only at h1 h2 h3 h4 ⊢
    have hr := h3.len
    unfold slices_heapSortOrdered_l4_T
    refine TS.br (fun hc => ?_) (fun hc => ?_)
    · rw [leI_iff] at hc
      refine TS.call (sift_ok N hn hN (hr.trans hl) ha hc (by omega) (by omega) h4) (fun y hy => ?_)
      simp (disch := omega) only [i64_in]
      refine TS.ret ⟨⟨by dsimp only; omega, by dsimp only; omega, h3.trans (hy.1.mono (Int.le_refl _) (by omega)), ?_⟩, by dsimp only; omega⟩
      dsimp only
      rw [Int.sub_add_cancel]
      exact hy.2
    · have hc' : ¬ 0 ≤ i := by rw [← leI_iff, hc]; simp
      have : i = -1 := by omega
      subst this
      exact TS.ret ⟨h3, h4⟩
  refine TS.call loop1 (fun y hy => ?_)
  have loop2 : OS (slices_heapSortOrdered_l8 N a 0 (b - a - 1, y)) (fun r => Sw a b l r ∧ Sd a b r) := by
    refine loop_os (fun x : Int × List Int => -1 ≤ x.1 ∧ x.1 ≤ b - a - 1 ∧ Sw a b l x.2 ∧ Hp a 0 (x.1 + 1) x.2 ∧ Sd (a + x.1 + 1) b x.2 ∧ ∀ p q, 0 ≤ p → p ≤ x.1 → x.1 < q → q < b - a → at0 x.2 (a + p) ≤ at0 x.2 (a + q)) (fun x => (x.1 + 1).toNat) _
      ⟨by dsimp only; omega, Int.le_refl _, hy.1, by dsimp only; rw [Int.sub_add_cancel]; exact hy.2, fun p q h1 h2 h3 => by dsimp only at h1; omega, fun p q h1 h2 h3 h4 => by dsimp only at h3; omega⟩ (by dsimp only; omega) ?_
    rintro ⟨i, r⟩ ⟨h1, h2, h3, h4, h5, h6⟩
    dsimp only at h1 h2 h3 h4 h5 h6 ⊢
    have hr := h3.len
    unfold slices_heapSortOrdered_l8_T
    refine TS.br (fun hc => ?_) (fun hc => ?_)
    · rw [leI_iff] at hc
      simp (disch := omega) only [i64_in]
      refine swap_ts (l := r) (i := a) (j := a + i) (f := fun x => Tree.call (slices_siftDownOrdered N 0 i a x) fun y8 => Tree.ret (Sum.inl (i - 1, y8))) (by omega) (by omega) ?_
      have hs : ∀ k, 0 ≤ k → at0 (swp r a (a + i)) k = if k = a + i then at0 r a else if k = a then at0 r (a + i) else at0 r k := fun k hk => swp_at (by omega) (by omega) (by omega) (by omega) hk
      have hp : Hp a (0 + 1) i (swp r a (a + i)) := by
        intro p c g1 g2 g3
        rw [hs _ (by omega), hs _ (by omega), if_neg (by omega), if_neg (by omega), if_neg (by omega), if_neg (by omega)]
        exact h4 p c (by omega) g2 (by omega)
      refine TS.call (sift_ok N hn hN (lo := 0) (hi := i) (by rw [swp_len]; exact hr.trans hl) ha (Int.le_refl _) (by omega) (by omega) hp) (fun z hz => ?_)
      have hfr : ∀ k, a + i ≤ k → at0 z k = at0 (swp r a (a + i)) k := fun k hk => Sw.frame ha (by rw [swp_len]; omega) hz.1 (by omega) (.inr hk)
      have hmax : ∀ k, a ≤ k → k ≤ a + i → at0 r k ≤ at0 r a := fun k g1 g2 => by
        have := Hp.top h4 (k - a).toNat (k - a) rfl (by omega) (by omega)
        rwa [show a + (k - a) = k by omega] at this
      have hz1 : at0 z (a + i) = at0 r a := by rw [hfr _ (Int.le_refl _), hs _ (by omega), if_pos rfl]
      have hz2 : ∀ k, a + i < k → at0 z k = at0 r k := fun k g => by rw [hfr _ (by omega), hs _ (by omega), if_neg (by omega), if_neg (by omega)]
      have hz3 : ∀ x, (∀ k, a ≤ k → k ≤ a + i → at0 r k ≤ x) → ∀ k, a ≤ k → k < a + i → at0 z k ≤ x := fun x hx => by
        refine Sw.all (P := fun v => v ≤ x) ha (by rw [swp_len]; omega) hz.1 (fun k g1 g2 => ?_)
        rw [hs _ (by omega), if_neg (by omega)]
        split
        · exact hx _ (by omega) (Int.le_refl _)
        · exact hx _ g1 (by omega)
      refine TS.ret ⟨⟨by dsimp only; omega, by dsimp only; omega, (Sw.step a (a + i) h3 (by omega) (by omega)).trans (hz.1.mono (Int.le_refl _) (by omega)), by dsimp only; rw [Int.sub_add_cancel]; exact hz.2, ?_, ?_⟩, by dsimp only; omega⟩
      · intro p q g1 g2 g3
        dsimp only at g1
        by_cases e1 : p = a + i
        · subst e1
          rw [hz1]
          by_cases e2 : q = a + i
          · subst e2; rw [hz1]; exact Int.le_refl _
          · rw [hz2 q (by omega)]
            have := h6 0 (q - a) (Int.le_refl _) hc (by omega) (by omega)
            rwa [Int.add_zero, show a + (q - a) = q by omega] at this
        · rw [hz2 p (by omega), hz2 q (by omega)]
          exact h5 p q (by omega) g2 g3
      · intro p q g1 g2 g3 g4
        dsimp only at g2 g3
        refine hz3 _ (fun k e1 e2 => ?_) (a + p) (by omega) (by omega)
        by_cases e : q = i
        · subst e; rw [hz1]; exact hmax k e1 e2
        · rw [hz2 _ (by omega)]
          have := h6 (k - a) q (by omega) (by omega) (by omega) g4
          rwa [show a + (k - a) = k by omega] at this
    · have hc' : ¬ 0 ≤ i := by rw [← leI_iff, hc]; simp
      have : i = -1 := by omega
      subst this
      rw [show a + -1 + 1 = a by omega] at h5
      exact TS.ret ⟨h3, h5⟩
  exact TS.call loop2 (fun z hz => TS.ret hz)
end
end Go.Proofs.YtkcimijkcmoonaaDoorV
