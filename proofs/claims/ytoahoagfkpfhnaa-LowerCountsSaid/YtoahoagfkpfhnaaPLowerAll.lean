/- Each gate of a circuit is what is made of it: secret as it was, with its word; how many ands. -/
import Derived.Test.YtoahoagfkpfhnaaPLowerSem
namespace Go.Proofs.YtoahoagfkpfhnaaV
set_option linter.unusedVariables false
set_option linter.unusedSimpArgs false

theorem or_nots (a b : BitVec 32) : ~~~(~~~a &&& ~~~b) = a ||| b := by
  apply BitVec.eq_of_getLsbD_eq
  intro i hi
  simp [hi]
theorem sub_nots (a b : BitVec 32) : ~~~(~~~a + b) = a - b := by
  have ha := a.isLt
  have hb := b.isLt
  apply BitVec.eq_of_toNat_eq
  simp only [BitVec.toNat_not, BitVec.toNat_add, BitVec.toNat_sub]
  omega

def secK (k : Int) (ta tb : Bool) : Bool := decide (k = 1) || (decide (1 ≤ takes k) && ta) || (decide (2 ≤ takes k) && tb)
/-- How many ands a gate comes to. -/
def dn (k : Int) (ta tb : Bool) : Nat :=
  if k = 3 ∨ k = 9 then (if ta = true ∧ tb = true then 1 else 0) else if k = 10 ∨ k = 11 then (if ta = true ∧ tb = true then 1 else 0) + (if ta = true ∨ tb = true then 9 else 0) else 0

theorem ev_congr {S P : List Int} {k n : Int} {a b a' b' : BitVec 32} (hk : 0 ≤ k ∧ k ≤ 11) (h1 : 1 ≤ takes k → a = a') (h2 : 2 ≤ takes k → b = b') : ev S P k a b n = ev S P k a' b' n := by
  rcases kinds hk with rfl | rfl | rfl | rfl | rfl | rfl | rfl | rfl | rfl | rfl | rfl | rfl
  · rfl
  · rfl
  · rfl
  all_goals first
    | (rw [h1 (by decide), h2 (by decide)])
    | (rw [h1 (by decide)]; rfl)

section
variable {S P : List Int} {s p : Int}

theorem gateS_sem {m : List Gate} {k n a b : Int} {ta tb : Bool} {wa wb : BitVec 32} (h : AllOK m s p) (hk : 0 ≤ k ∧ k ≤ 11) (hn : NumOK s p k n) (h0 : takes k < 1 → a = 0) (h0' : takes k < 2 → b = 0)
    (h1 : 1 ≤ takes k → Hd S P m a ta wa) (h2 : 2 ≤ takes k → Hd S P m b tb wb) :
    AllOK (gateS k n a b m).2 s p ∧ Hd S P (gateS k n a b m).2 (gateS k n a b m).1 (secK k ta tb) (ev S P k wa wb n) ∧ nands (gateS k n a b m).2 = nands m + dn k ta tb ∧ (∀ x t w, Hd S P m x t w → Hd S P (gateS k n a b m).2 x t w) := by
  unfold gateS
  by_cases h9 : k = 9
  · subst h9
    have ha := h1 (by decide)
    have hb := h2 (by decide)
    obtain ⟨a1, b1, c1⟩ := app_not h ha
    obtain ⟨a2, b2, c2⟩ := app_not a1 (hb.old 5 a 0 0)
    obtain ⟨a3, b3, c3⟩ := app_and a2 (b1.old _ _ _ _) b2
    obtain ⟨a4, b4, c4⟩ := app_not a3 b3
    simp only [if_true]
    refine ⟨a4, ?_, ?_, fun x t w hx => (((hx.old _ _ _ _).old _ _ _ _).old _ _ _ _).old _ _ _ _⟩
    · rw [or_nots] at b4
      simpa [secK, show takes 9 = 2 by decide, ev] using b4
    · rw [c4, c3, c2, c1]
      simp [dn]
  by_cases h10 : k = 10
  · subst h10
    have ha := h1 (by decide)
    have hb := h2 (by decide)
    obtain ⟨a1, b1, c1, d1⟩ := sum_sem h ha hb
    simp only [if_true, if_false, h9]
    refine ⟨a1, ?_, ?_, d1⟩
    · simpa [secK, show takes 10 = 2 by decide, ev] using b1
    · rw [c1]
      simp only [dn]
      simp
      omega
  by_cases h11 : k = 11
  · subst h11
    have ha := h1 (by decide)
    have hb := h2 (by decide)
    obtain ⟨a1, b1, c1⟩ := app_not h ha
    obtain ⟨a2, b2, c2, d2⟩ := sum_sem a1 b1 (hb.old 5 a 0 0)
    obtain ⟨a3, b3, c3⟩ := app_not a2 b2
    simp only [if_true, if_false, h9, h10]
    refine ⟨a3, ?_, ?_, fun x t w hx => (d2 x t w (hx.old _ _ _ _)).old _ _ _ _⟩
    · rw [sub_nots] at b3
      simpa [secK, show takes 11 = 2 by decide, ev] using b3
    · rw [c3, c2, c1]
      simp only [dn]
      simp
      omega
  · simp only [h9, h10, h11, if_false]
    refine ⟨h.app hk h0 h0' (fun h => (h1 h).1) (fun h => (h2 h).1) hn, ?_, ?_, fun x t w hx => hx.old _ _ _ _⟩
    · have hd := Hd.new (S := S) (P := P) m k a b n
      have e1 : secOf m k a b = secK k ta tb := by
        simp only [secOf, secK]
        rcases takes_cases k with ht | ht | ht
        · simp [ht]
        · simp [ht, (h1 (by omega)).2.1]
        · simp [ht, (h1 (by omega)).2.1, (h2 (by omega)).2.1]
      rw [e1, ev_congr (a' := wa) (b' := wb) hk (fun h => (h1 h).2.2) (fun h => (h2 h).2.2)] at hd
      exact hd
    · rw [nands_app h k a b n (fun h3 => by subst h3; exact ⟨(h1 (by decide)).1, (h2 (by decide)).1⟩)]
      simp only [dn, h9, h10, h11, or_false, if_false]
      by_cases h3 : k = 3
      · subst h3
        rw [(h1 (by decide)).2.1, (h2 (by decide)).2.1]
        simp
      · simp [h3]

theorem wv_split (l r : List Gate) : ∃ t, wv S P (l ++ r) = wv S P l ++ t := by
  induction r generalizing l with
  | nil => exact ⟨[], by simp⟩
  | cons g r ih =>
    obtain ⟨t, ht⟩ := ih (l ++ [g])
    rw [List.append_cons, ht, wv_snoc, wstep, List.append_assoc]
    exact ⟨_, rfl⟩

theorem wv_prefix (gs : List Gate) {i j : Nat} (hj : j < i) (hi : i ≤ gs.length) : (wv S P (gs.take i)).getD j 0 = (wv S P gs).getD j 0 := by
  obtain ⟨t, ht⟩ := wv_split (S := S) (P := P) (gs.take i) (gs.drop i)
  rw [List.take_append_drop] at ht
  rw [ht, getD_left _ _ _ (by rw [wv_len]; simp; omega)]

theorem wat_gate {gs : List Gate} {i : Nat} (hi : i < gs.length) (hok : GateOK gs s p i gs[i]) : Wat S P gs i = ev S P gs[i].1 (Wat S P gs gs[i].2.1) (Wat S P gs gs[i].2.2.1) gs[i].2.2.2.1 := by
  have e : (wv S P gs).getD i 0 = ev S P gs[i].1 ((wv S P (gs.take i)).getD gs[i].2.1.toNat 0) ((wv S P (gs.take i)).getD gs[i].2.2.1.toNat 0) gs[i].2.2.2.1 := by
    rw [← wv_prefix gs (Nat.lt_succ_self i) (by omega), wv_take S P gs i hi, wstep, getD_last _ _ _ (by rw [wv_len]; simp; omega)]
  simp only [Wat, toNat_nat, e]
  refine ev_congr hok.1 (fun h => ?_) (fun h => ?_)
  · have := hok.2.2.2.1 h
    exact wv_prefix gs (by omega) (by omega)
  · have := hok.2.2.2.2.1 h
    exact wv_prefix gs (by omega) (by omega)

def dnG (gs : List Gate) (g : Gate) : Nat := dn g.1 (sec gs g.2.1) (sec gs g.2.2.1)
def dnAll (gs : List Gate) (i : Nat) : Nat := ((gs.take i).map (dnG gs)).sum

theorem lall_sem (S P : List Int) (gs : List Gate) (h : AllOK gs s p) : ∀ i, i ≤ gs.length →
    AllOK (lall (gs.take i)).2 s p ∧ (∀ j : Nat, j < i → Hd S P (lall (gs.take i)).2 ((lall (gs.take i)).1.getD j 0) (sec gs j) (Wat S P gs j)) ∧ nands (lall (gs.take i)).2 = dnAll gs i
  | 0, _ => ⟨fun i hi => by simp [lall] at hi, fun j hj => absurd hj (by omega), by simp [lall, nands, dnAll]⟩
  | i + 1, hi => by
    obtain ⟨ih1, ih2, ih3⟩ := lall_sem S P gs h i (by omega)
    have i1 := (lall_in gs s p h i (by omega)).1
    have hg : gs.getD i g0 = gs[i] := getD_nat _ _ _ (by omega)
    have hok := h i (by omega)
    rw [hg] at hok
    have ha : 1 ≤ takes gs[i].1 → Hd S P (lall (gs.take i)).2 (if 1 ≤ takes gs[i].1 then (lall (gs.take i)).1.getD gs[i].2.1.toNat 0 else 0) (sec gs gs[i].2.1) (Wat S P gs gs[i].2.1) := by
      intro h1
      have hb := hok.2.2.2.1 h1
      rw [if_pos h1]
      have := ih2 gs[i].2.1.toNat (by omega)
      rwa [show ((gs[i].2.1.toNat : Nat) : Int) = gs[i].2.1 by omega] at this
    have hb : 2 ≤ takes gs[i].1 → Hd S P (lall (gs.take i)).2 (if 2 ≤ takes gs[i].1 then (lall (gs.take i)).1.getD gs[i].2.2.1.toNat 0 else 0) (sec gs gs[i].2.2.1) (Wat S P gs gs[i].2.2.1) := by
      intro h1
      have hb := hok.2.2.2.2.1 h1
      rw [if_pos h1]
      have := ih2 gs[i].2.2.1.toNat (by omega)
      rwa [show ((gs[i].2.2.1.toNat : Nat) : Int) = gs[i].2.2.1 by omega] at this
    obtain ⟨g1, g2, g3, g4⟩ := gateS_sem ih1 hok.1 hok.2.2.2.2.2.1 (fun h => by rw [if_neg (by omega)]) (fun h => by rw [if_neg (by omega)]) ha hb
    have es : secK gs[i].1 (sec gs gs[i].2.1) (sec gs gs[i].2.2.1) = sec gs i := by
      have : sec gs (i : Int) = gs[i].2.2.2.2 := by simp only [sec, toNat_nat]; rw [getD_nat _ _ _ (by omega)]
      rw [this, hok.2.2.2.2.2.2]
      rfl
    rw [es, ← wat_gate (by omega) hok] at g2
    rw [lall_take gs i (by omega)]
    simp only [lstep]
    refine ⟨g1, fun j hj => ?_, ?_⟩
    · rcases Nat.lt_or_ge j i with h3 | h3
      · rw [getD_left _ _ _ (by omega)]
        exact g4 _ _ _ (ih2 j h3)
      · obtain rfl : j = i := by omega
        rw [getD_last _ _ _ i1.symm]
        exact g2
    · rw [g3, ih3]
      simp only [dnAll, take_snoc gs (by omega : i < gs.length), List.map_append, List.sum_append, List.map_cons, List.map_nil, List.sum_cons, List.sum_nil, Nat.add_zero, dnG]
end
end Go.Proofs.YtoahoagfkpfhnaaV
