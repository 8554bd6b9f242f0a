/- slices.Sort: what comes is sorted, and the same elements. -/
import Derived.Test.YtkcimijkcmoonaaDoorPSortF
namespace Go.Proofs.YtkcimijkcmoonaaDoorV
set_option linter.unusedVariables false
set_option linter.unusedSimpArgs false

theorem glue {a m b : Int} {r : List Int} (h1 : Sd a m r) (h2 : Sd (m + 1) b r) (h3 : ∀ k, a ≤ k → k < m → at0 r k ≤ at0 r m) (h4 : ∀ k, m < k → k < b → at0 r m ≤ at0 r k) : Sd a b r := by
  intro i j g1 g2 g3
  by_cases e : i = j
  · subst e; exact Int.le_refl _
  by_cases e1 : j < m
  · exact h1 i j g1 g2 e1
  by_cases e2 : m < i
  · exact h2 i j (by omega) g2 g3
  have l1 : at0 r i ≤ at0 r m := by
    by_cases e3 : i = m
    · subst e3; exact Int.le_refl _
    · exact h3 i g1 (by omega)
  have l2 : at0 r m ≤ at0 r j := by
    by_cases e3 : j = m
    · subst e3; exact Int.le_refl _
    · exact h4 j (by omega) g3
  exact Int.le_trans l1 l2

theorem Sd.of_frame {a b : Int} {r r' : List Int} (h : Sd a b r) (hf : ∀ k, a ≤ k → k < b → at0 r' k = at0 r k) : Sd a b r' := fun i j g1 g2 g3 => by
  rw [hf i g1 (by omega), hf j (by omega) g3]
  exact h i j g1 g2 g3

/-- What is left to be sorted after a round. -/
def PJ (a b : Int) (l : List Int) (a2 b2 : Int) (l2 : List Int) : Prop :=
  a ≤ a2 ∧ a2 ≤ b2 ∧ b2 ≤ b ∧ b2 - a2 < b - a ∧ Sw a b l l2 ∧ LB a2 b2 l2 ∧ ∀ r, Sw a2 b2 l2 r → Sd a2 b2 r → Sd a b r

theorem PJ.pre {a b a2 b2 : Int} {l l1 l2 : List Int} (h : PJ a b l1 a2 b2 l2) (hs : Sw a b l l1) : PJ a b l a2 b2 l2 := by
  obtain ⟨h1, h2, h3, h4, h5, h6, h7⟩ := h
  exact ⟨h1, h2, h3, h4, hs.trans h5, h6, h7⟩

section
variable (N : Nat) {n : Nat} (hn : (n : Int) < 140737488355328) (hN : n + 100 < N)
include hn hN

section
variable {rec : Int → Int → Int → List Int → Option (List Int)} {a b : Int} (ha : 0 ≤ a) (hb : b ≤ n)
  (HR : ∀ a' b' lim l', a ≤ a' → b' ≤ b → a' ≤ b' → b' - a' < b - a → l'.length = n → LB a' b' l' → OS (rec a' b' lim l') (fun r => Sw a' b' l' r ∧ Sd a' b' r))
include ha hb HR

theorem pj20 {l : List Int} (hl : l.length = n) (hLB : LB a b l) {lim len p : Int} (hp : a ≤ p ∧ p < b) : OS (slices_pdqsortOrdered_j20 N rec a b lim len p l) (fun y => PJ a b l y.1 y.2.1 y.2.2.2.2) := by
  unfold slices_pdqsortOrdered_j20
  refine OS.of ?_
  unfold slices_pdqsortOrdered_j20_T
  refine TS.call (pa_ok N (by omega) (by omega) ha hb hl hp) (fun y hy => ?_)
  obtain ⟨g1, g2, g3, g4, g5⟩ := hy
  have hyl : y.2.2.length = n := g3.len.trans hl
  have hLy : LB a b y.2.2 := LB.sw ha hb hl hLB g3
  refine TS.br (fun _ => ?_) (fun _ => ?_)
  · refine TS.call (HR a y.1 lim y.2.2 (Int.le_refl _) (by omega) g1 (by omega) hyl (fun h0 k k1 k2 => hLy h0 k k1 (by omega))) (fun z hz => ?_)
    obtain ⟨z1, z2⟩ := hz
    have hzl : z.length = n := z1.len.trans hyl
    have hfr : ∀ k, y.1 ≤ k → at0 z k = at0 y.2.2 k := fun k hk => Sw.frame ha (by omega) z1 (by omega) (.inr hk)
    have hzlow : ∀ k, a ≤ k → k < y.1 → at0 z k ≤ at0 z y.1 := fun k k1 k2 => by
      rw [hfr y.1 (Int.le_refl _)]
      exact Sw.all (P := fun v => v ≤ at0 y.2.2 y.1) ha (by omega) z1 g4 k k1 k2
    have hzhigh : ∀ k, y.1 < k → k < b → at0 z y.1 ≤ at0 z k := fun k k1 k2 => by
      rw [hfr y.1 (Int.le_refl _), hfr k (by omega)]; exact g5 k k1 k2
    simp (disch := omega) only [i64_in]
    refine TS.ret ⟨by dsimp only; omega, by dsimp only; omega, by dsimp only; omega, by dsimp only; omega, g3.trans (z1.mono (Int.le_refl _) (by omega)), fun _ k k1 k2 => ?_, fun r hr hs => ?_⟩
    · dsimp only at k1 ⊢
      rw [Int.add_sub_cancel]
      exact hzhigh k (by omega) k2
    · dsimp only at hr hs
      have hf2 : ∀ k, 0 ≤ k → k ≤ y.1 → at0 r k = at0 z k := fun k k0 k1 => Sw.frame (a := y.1 + 1) (by omega) (by omega) hr k0 (.inl (by omega))
      refine glue (m := y.1) (z2.of_frame fun k k1 k2 => hf2 k (by omega) (by omega)) hs (fun k k1 k2 => ?_) (fun k k1 k2 => ?_)
      · rw [hf2 k (by omega) (by omega), hf2 y.1 (by omega) (Int.le_refl _)]
        exact hzlow k k1 k2
      · rw [hf2 y.1 (by omega) (Int.le_refl _)]
        exact Sw.all (P := fun v => at0 z y.1 ≤ v) (a := y.1 + 1) (by omega) (by omega) hr (fun k k1 k2 => hzhigh k (by omega) k2) k (by omega) k2
  · simp (disch := omega) only [i64_in]
    refine TS.call (HR (y.1 + 1) b lim y.2.2 (by omega) (Int.le_refl _) (by omega) (by omega) hyl (fun h0 k k1 k2 => ?_)) (fun z hz => ?_)
    · rw [Int.add_sub_cancel]; exact g5 k (by omega) k2
    obtain ⟨z1, z2⟩ := hz
    have hzl : z.length = n := z1.len.trans hyl
    have hfr : ∀ k, 0 ≤ k → k ≤ y.1 → at0 z k = at0 y.2.2 k := fun k k0 hk => Sw.frame (a := y.1 + 1) (by omega) (by omega) z1 k0 (.inl (by omega))
    have hzlow : ∀ k, a ≤ k → k < y.1 → at0 z k ≤ at0 z y.1 := fun k k1 k2 => by
      rw [hfr y.1 (by omega) (Int.le_refl _), hfr k (by omega) (by omega)]; exact g4 k k1 k2
    have hzhigh : ∀ k, y.1 < k → k < b → at0 z y.1 ≤ at0 z k := fun k k1 k2 => by
      rw [hfr y.1 (by omega) (Int.le_refl _)]
      exact Sw.all (P := fun v => at0 y.2.2 y.1 ≤ v) (a := y.1 + 1) (by omega) (by omega) z1 (fun k k1 k2 => g5 k (by omega) k2) k (by omega) k2
    refine TS.ret ⟨by dsimp only; omega, by dsimp only; omega, by dsimp only; omega, by dsimp only; omega, g3.trans (z1.mono (by omega) (Int.le_refl _)), fun h0 k k1 k2 => ?_, fun r hr hs => ?_⟩
    · dsimp only at h0 k1 k2 ⊢
      have hLz : LB a b z := LB.sw ha hb hl hLB (g3.trans (z1.mono (by omega) (Int.le_refl _)))
      exact hLz h0 k k1 (by omega)
    · dsimp only at hr hs
      have hf2 : ∀ k, y.1 ≤ k → at0 r k = at0 z k := fun k k1 => Sw.frame ha (by omega) hr (by omega) (.inr k1)
      refine glue (m := y.1) hs (z2.of_frame fun k k1 k2 => hf2 k (by omega)) (fun k k1 k2 => ?_) (fun k k1 k2 => ?_)
      · rw [hf2 y.1 (Int.le_refl _)]
        exact Sw.all (P := fun v => v ≤ at0 z y.1) ha (by omega) hr hzlow k k1 k2
      · rw [hf2 y.1 (Int.le_refl _), hf2 k (by omega)]
        exact hzhigh k k1 k2

theorem pj17 {l : List Int} (hl : l.length = n) (hLB : LB a b l) {lim len p : Int} (hp : a ≤ p ∧ p < b) : OS2 (slices_pdqsortOrdered_j17 N rec a b lim len p l) (fun y => PJ a b l y.1 b y.2) (fun y => PJ a b l y.1 y.2.1 y.2.2.2.2) := by
  have no : slices_pdqsortOrdered_j18 N rec a b p false l = some (.inr ()) := rfl
  have one : TS (.call (slices_pdqsortOrdered_j18 N rec a b p false l) fun y7 => .alt y7 (fun y8 => .ret (.inl (y8.1, y8.2))) (fun y9 => .call (slices_pdqsortOrdered_j20 N rec a b lim len p l) fun y10 => .ret (.inr (y10.1, y10.2.1, y10.2.2.1, y10.2.2.2.1, y10.2.2.2.2))))
      (EP (fun y : Int × List Int => PJ a b l y.1 b y.2) (fun y : Int × Int × Bool × Bool × List Int => PJ a b l y.1 y.2.1 y.2.2.2.2)) := by
    rw [no]
    exact TS.callS (PA := fun _ => False) (PB := fun _ => True) (.inr ⟨(), rfl, trivial⟩) (fun _ h => h.elim) (fun _ _ => TS.call (pj20 N hn hN ha hb HR hl hLB hp) (fun y hy => TS.ret hy))
  unfold slices_pdqsortOrdered_j17
  refine OS.ep (OS.of ?_)
  unfold slices_pdqsortOrdered_j17_T
  refine TS.br (fun hc => ?_) (fun _ => one)
  rw [ltI_iff] at hc
  simp (disch := omega) only [i64_in]
  refine TS.brT (by rw [inRange_iff]; omega) (TS.brT (by rw [inRange_iff]; omega) (TS.less (fun _ => one) (fun hge => ?_)))
  have hyes : OS (slices_pdqsortOrdered_j18 N rec a b p true l) (EP (fun y : Int × List Int => PJ a b l y.1 b y.2) (fun _ => False)) := by
    unfold slices_pdqsortOrdered_j18
    refine OS.of ?_
    unfold slices_pdqsortOrdered_j18_T
    refine TS.brT rfl (TS.call (pe_ok N (by omega) (by omega) ha hb hl hp) (fun y hy => TS.ret ?_))
    obtain ⟨g1, g2, g3, g4, g5⟩ := hy
    have hyl : y.2.length = n := g3.len.trans hl
    have hLy : LB a b y.2 := LB.sw ha hb hl hLB g3
    have hge' : at0 l p ≤ at0 l (a - 1) := hge
    have hfa : at0 y.2 (a - 1) = at0 l (a - 1) := Sw.frame ha (by omega) g3 (by omega) (.inl (by omega))
    have heq : ∀ k, a ≤ k → k < y.1 → at0 y.2 k = at0 l p := fun k k1 k2 => by
      have := hLy hc k k1 (by omega)
      have := g4 k k1 k2
      omega
    refine ⟨by dsimp only; omega, g2, Int.le_refl _, by dsimp only; omega, g3, fun _ k k1 k2 => ?_, fun r hr hs => ?_⟩
    · dsimp only at k1 ⊢
      rw [heq (y.1 - 1) (by omega) (by omega)]
      exact Int.le_of_lt (g5 k k1 k2)
    · dsimp only at hr hs
      have hf2 : ∀ k, 0 ≤ k → k < y.1 → at0 r k = at0 y.2 k := fun k k0 k1 => Sw.frame (a := y.1) (by omega) (by omega) hr k0 (.inl k1)
      intro i j i1 i2 i3
      by_cases e1 : y.1 ≤ i
      · exact hs i j e1 i2 i3
      · rw [hf2 i (by omega) (by omega), heq i i1 (by omega)]
        by_cases e2 : y.1 ≤ j
        · exact Int.le_of_lt (Sw.all (P := fun v => at0 l p < v) (a := y.1) (by omega) (by omega) hr (fun k k1 k2 => g5 k k1 k2) j e2 i3)
        · rw [hf2 j (by omega) (by omega), heq j (by omega) (by omega)]; exact Int.le_refl _
  exact TS.callS hyes.ep (fun y hy => TS.ret hy) (fun _ h => h.elim)

theorem pj15 {l : List Int} (hl : l.length = n) (hLB : LB a b l) {lim len p h : Int} {b1 b2 : Bool} (hp : a ≤ p ∧ p < b) : OS (slices_pdqsortOrdered_j15 N rec a b lim b1 b2 len p h l) (EP (fun r => Sw a b l r ∧ Sd a b r) (EP (fun y => PJ a b l y.1 b y.2) (fun y => PJ a b l y.1 y.2.1 y.2.2.2.2))) := by
  unfold slices_pdqsortOrdered_j15
  refine OS.of ?_
  unfold slices_pdqsortOrdered_j15_T
  refine TS.br (fun _ => TS.br (fun _ => TS.br (fun _ => ?_) (fun _ => ?_)) (fun _ => ?_)) (fun _ => ?_)
  · refine TS.call (pi_ok N hn hN ha hb hl (by omega) hLB) (fun y hy => TS.br (fun hc => TS.ret ⟨hy.1, hy.2 hc⟩) (fun _ => ?_))
    have hyl : y.2.length = n := hy.1.len.trans hl
    exact TS.callS (pj17 N hn hN ha hb HR hyl (LB.sw ha hb hl hLB hy.1) hp) (fun z hz => TS.ret (hz.pre hy.1)) (fun z hz => TS.ret (hz.pre hy.1))
  · exact TS.callS (pj17 N hn hN ha hb HR hl hLB hp) (fun z hz => TS.ret hz) (fun z hz => TS.ret hz)
  · exact TS.callS (pj17 N hn hN ha hb HR hl hLB hp) (fun z hz => TS.ret hz) (fun z hz => TS.ret hz)
  · exact TS.callS (pj17 N hn hN ha hb HR hl hLB hp) (fun z hz => TS.ret hz) (fun z hz => TS.ret hz)

theorem pj10 {l : List Int} (hl : l.length = n) (hab : a + 12 < b) (hLB : LB a b l) {lim len : Int} {b1 b2 : Bool} : OS (slices_pdqsortOrdered_j10 N rec a b lim b1 b2 len l) (EP (fun r => Sw a b l r ∧ Sd a b r) (EP (fun y => PJ a b l y.1 b y.2) (fun y => PJ a b l y.1 y.2.1 y.2.2.2.2))) := by
  unfold slices_pdqsortOrdered_j10
  refine OS.of ?_
  unfold slices_pdqsortOrdered_j10_T
  refine TS.call (pivot_ok N hn ha hb hl hab) (fun p hp => TS.br (fun _ => ?_) (fun _ => ?_))
  · refine TS.call (rev_ok N ha (by omega) (by omega) hb hl (by omega)) (fun y hy => ?_)
    have hyl : y.length = n := hy.len.trans hl
    simp (disch := omega) only [i64_in]
    refine TS.call (pj15 N hn hN ha hb HR hyl (LB.sw ha hb hl hLB hy) (p := b - 1 - (p.1 - a)) (by omega)) (fun z hz => ?_)
    rcases z with z | z | z
    · exact TS.ret ⟨hy.trans hz.1, hz.2⟩
    · exact TS.ret (hz.pre hy)
    · exact TS.ret (hz.pre hy)
  · refine TS.call (pj15 N hn hN ha hb HR hl hLB hp) (fun z hz => ?_)
    rcases z with z | z | z
    · exact TS.ret hz
    · exact TS.ret hz
    · exact TS.ret hz
end

theorem pdq_R : ∀ (k : Nat) (a b lim : Int) (l : List Int), (b - a).toNat < k → 0 ≤ a → a ≤ b → b ≤ n → l.length = n → LB a b l → OS (slices_pdqsortOrdered_R N k a b lim l) (fun r => Sw a b l r ∧ Sd a b r)
  | 0, a, b, lim, l, hk, _, _, _, _, _ => by omega
  | k + 1, a, b, lim, l, hk, ha, hab, hb, hl, hLB => by
    show OS ((slices_pdqsortOrdered_T N (slices_pdqsortOrdered_R N k) a b lim l).run some) _
    refine OS.of ?_
    unfold slices_pdqsortOrdered_T
    have hloop : OS (slices_pdqsortOrdered_l2 N (slices_pdqsortOrdered_R N k) (a, b, lim, true, true, l)) (fun r => Sw a b l r ∧ Sd a b r) := by
      refine loop_os (fun x : Int × Int × Int × Bool × Bool × List Int => a ≤ x.1 ∧ x.1 ≤ x.2.1 ∧ x.2.1 ≤ b ∧ Sw a b l x.2.2.2.2.2 ∧ LB x.1 x.2.1 x.2.2.2.2.2 ∧ ∀ r, Sw x.1 x.2.1 x.2.2.2.2.2 r → Sd x.1 x.2.1 r → Sd a b r) (fun x => (x.2.1 - x.1).toNat) _
        ⟨Int.le_refl _, hab, Int.le_refl _, .refl _, hLB, fun r _ h => h⟩ (by dsimp only; omega) ?_
      rintro ⟨a1, b1, lim1, w1, w2, r⟩ ⟨h1, h2, h3, h4, h5, h6⟩
      dsimp only at h1 h2 h3 h4 h5 h6 ⊢
      have hr : r.length = n := h4.len.trans hl
      unfold slices_pdqsortOrdered_l2_T
      have e0 : IntKind.i64.wrap (b1 - a1) = b1 - a1 := i64_in (by omega)
      dsimp only
      rw [e0]
      have HR : ∀ a' b' lim l', a1 ≤ a' → b' ≤ b1 → a' ≤ b' → b' - a' < b1 - a1 → l'.length = n → LB a' b' l' → OS (slices_pdqsortOrdered_R N k a' b' lim l') (fun r => Sw a' b' l' r ∧ Sd a' b' r) := fun a' b' lim l' g1 g2 g3 g4 g5 g6 =>
        pdq_R k a' b' lim l' (by omega) (by omega) g3 (by omega) g5 g6
      have fin : ∀ r', Sw a1 b1 r r' → Sd a1 b1 r' → Sw a b l r' ∧ Sd a b r' := fun r' g1 g2 => ⟨h4.trans (g1.mono (by omega) (by omega)), h6 r' g1 g2⟩
      have nxt : ∀ {a2 b2 r2}, PJ a1 b1 r a2 b2 r2 → (a ≤ a2 ∧ a2 ≤ b2 ∧ b2 ≤ b ∧ Sw a b l r2 ∧ LB a2 b2 r2 ∧ ∀ r', Sw a2 b2 r2 r' → Sd a2 b2 r' → Sd a b r') ∧ (b2 - a2).toNat < (b1 - a1).toNat := fun {a2 b2 r2} h => by
        obtain ⟨g1, g2, g3, g4, g5, g6, g7⟩ := h
        exact ⟨⟨by omega, g2, by omega, h4.trans (g5.mono (by omega) (by omega)), g6, fun r' k1 k2 => h6 r' (g5.trans (k1.mono g1 g3)) (g7 r' k1 k2)⟩, by omega⟩
      refine TS.br (fun _ => ?_) (fun h12 => ?_)
      · exact TS.call (ins_ok N (by omega) (by omega) (by omega) (by omega) hr h2) (fun y hy => TS.ret (fin y hy.1 hy.2))
      · have h12' : ¬ b1 - a1 ≤ 12 := by rw [← leI_iff, h12]; simp
        refine TS.br (fun _ => ?_) (fun _ => TS.br (fun _ => ?_) (fun _ => ?_))
        · exact TS.call (heap_ok N (by omega) (by omega) hr (by omega) h2 (by omega)) (fun y hy => TS.ret (fin y hy.1 hy.2))
        · refine TS.call (bp_ok N hn hN (by omega) (by omega) hr h2) (fun y hy => ?_)
          have hyl : y.length = n := hy.len.trans hr
          refine TS.call (pj10 N hn hN (by omega) (by omega) HR hyl (by omega) (LB.sw (by omega) (by omega) hr h5 hy)) (fun z hz => ?_)
          rcases z with z | z | z
          · exact TS.ret (fin z (hy.trans hz.1) hz.2)
          · exact TS.ret (nxt (hz.pre hy))
          · exact TS.ret (nxt (hz.pre hy))
        · refine TS.call (pj10 N hn hN (by omega) (by omega) HR hr (by omega) h5) (fun z hz => ?_)
          rcases z with z | z | z
          · exact TS.ret (fin z hz.1 hz.2)
          · exact TS.ret (nxt hz)
          · exact TS.ret (nxt hz)
    exact TS.call hloop (fun y hy => TS.ret hy)

/-- slices.Sort. -/
theorem sort_ok {l : List Int} (hl : l.length = n) : OS (slices_Sort N l) (fun r => r.Perm l ∧ r.Pairwise (· ≤ ·)) := by
  unfold slices_Sort
  refine OS.of ?_
  unfold slices_Sort_T
  have e : IntKind.u64.wrap (l.length : Int) = l.length := u64_in (by omega)
  dsimp only
  rw [e]
  refine TS.call (len_ok N (by omega) (by omega)) (fun lim _ => TS.call (pdq_R N hn hN N 0 l.length lim l (by omega) (Int.le_refl _) (by omega) (by omega) hl (fun h => absurd h (by omega))) (fun y hy => TS.ret ⟨Sw.perm (Int.le_refl _) (Int.le_refl _) hy.1, ?_⟩))
  have hyl := hy.1.len
  rw [List.pairwise_iff_getElem]
  intro i j hi hj hij
  have := hy.2 i j (by omega) (by omega) (by omega)
  unfold at0 at this
  rwa [toNat_nat, toNat_nat, getD_nat _ _ _ hi, getD_nat _ _ _ hj] at this
end
end Go.Proofs.YtkcimijkcmoonaaDoorV
