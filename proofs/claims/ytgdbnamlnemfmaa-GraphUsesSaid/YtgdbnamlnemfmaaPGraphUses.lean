/- The plain law of GraphUses. -/
import Derived.Test.YtgdbnamlnemfmaaPGraphPlain
namespace Go.Proofs.YtgdbnamlnemfmaaV
set_option linter.unusedVariables false
set_option linter.unusedSimpArgs false

/-- Where a gate goes. -/
def nw (gs : List Gate) (j : Nat) : Int := (pall gs).1.getD j 0
theorem nw_take (gs : List Gate) {i j : Nat} (hj : j < i) (hi : i ≤ gs.length) : (pall (gs.take i)).1.getD j 0 = nw gs j := by
  have := pall_now gs (show j < gs.length by omega) (Nat.le_refl _)
  rw [List.take_length] at this
  rw [pall_now gs hj hi, nw, this]

def plen (gs : List Gate) (i : Nat) : Nat := (pall (gs.take i)).2.length
theorem plen_succ (gs : List Gate) {i : Nat} (hi : i < gs.length) : plen gs (i + 1) = plen gs i + (if gs[i].1 = 12 then 0 else 1) := by
  simp only [plen, pall_take gs i hi, pstep]
  split <;> simp
theorem plen_mono (gs : List Gate) {i j : Nat} (h : i ≤ j) (hj : j ≤ gs.length) : plen gs i ≤ plen gs j := by
  induction j with
  | zero =>
    have h0 : i = 0 := by omega
    rw [h0]
    exact Nat.le_refl _
  | succ j ih =>
    rcases Nat.lt_or_ge i (j + 1) with h1 | h1
    · have := ih (by omega) (by omega)
      rw [plen_succ gs (by omega)]
      omega
    · obtain rfl : i = j + 1 := by omega
      exact Nat.le_refl _
theorem nw_new (gs : List Gate) {i : Nat} (hi : i < gs.length) (h12 : gs[i].1 ≠ 12) : nw gs i = (plen gs i : Int) := by
  rw [← nw_take gs (Nat.lt_succ_self i) (by omega), pall_take gs i hi, pstep, if_neg h12, getD_last _ _ _ (pall_len gs i (by omega)).1.symm]
  rfl

section
variable {gs : List Gate} {s p : Int} {os : List GOut}

theorem nw_org (h : CanOK (asK 5 gs) s p os) {j : Nat} (hj : j < gs.length) : nw gs j = nw gs (org gs j) := by
  have := org_le h hj
  rw [← nw_take gs (Nat.lt_succ_self j) (by omega), now_org h j hj, nw_take gs (Nat.lt_succ_self _) (by omega)]

theorem nw_eq (h : CanOK (asK 5 gs) s p os) {i x : Nat} (hi : i < gs.length) (hx : x < gs.length) (h12 : gs[i].1 ≠ 12) : nw gs x = nw gs i ↔ org gs x = i := by
  have hle := org_le h hx
  have hne := org_ne h hx
  rw [getD_nat _ _ _ (by omega : org gs x < gs.length)] at hne
  rw [nw_org h hx, nw_new gs (by omega) hne, nw_new gs hi h12]
  constructor
  · intro e
    rcases Nat.lt_trichotomy (org gs x) i with hlt | heq | hgt
    · have h1 := plen_succ gs (show org gs x < gs.length by omega)
      rw [if_neg hne] at h1
      have h2 := plen_mono gs (show org gs x + 1 ≤ i by omega) (by omega)
      omega
    · exact heq
    · have h1 := plen_succ gs hi
      rw [if_neg h12] at h1
      have h2 := plen_mono gs (show i + 1 ≤ org gs x by omega) (by omega)
      omega
  · intro e
    rw [e]

/-- What is said of those that come of i, added up. -/
def tot (gs : List Gate) (i : Nat) (f : Nat → Int) : Nat → Int
  | 0 => 0
  | n + 1 => tot gs i f n + if org gs n = i then f n else 0

theorem tot_congr {i : Nat} {f g : Nat → Int} : ∀ {n : Nat}, (∀ j, j < n → f j = g j) → tot gs i f n = tot gs i g n
  | 0, _ => rfl
  | n + 1, h => by rw [tot, tot, tot_congr (fun j hj => h j (by omega)), h n (by omega)]

theorem tot_bump {i x : Nat} {f : Nat → Int} : ∀ {n : Nat}, tot gs i (fun j => f j + if x = j then 1 else 0) n = tot gs i f n + if x < n ∧ org gs x = i then 1 else 0
  | 0 => by simp [tot]
  | n + 1 => by
    rw [tot, tot, tot_bump]
    by_cases hx : x = n
    · subst hx
      by_cases ho : org gs x = i <;> simp [ho]
      omega
    · by_cases hlt : x < n
      · simp only [hx, hlt, show x < n + 1 by omega, if_false, Int.add_zero, true_and]; omega
      · simp only [hx, hlt, show ¬ x < n + 1 by omega, if_false, Int.add_zero, false_and]

theorem inc_get {out : List Int} {x : Int} (hx : x.toNat < out.length) (j : Nat) : (inc gs out x).getD j 0 = out.getD j 0 + if sec gs x = true ∧ x.toNat = j then 1 else 0 := by
  unfold inc
  by_cases hs : sec gs x = true
  · rw [if_pos hs]
    by_cases e : x.toNat = j
    · subst e
      rw [getD_set_eq _ _ _ hx]; simp [hs]
    · rw [getD_set_ne _ _ _ e]; simp [e]
  · rw [if_neg hs]; simp [hs]

theorem tot_inc {out : List Int} {x : Int} {i n : Nat} (hx : x.toNat < out.length) (hn : x.toNat < n) :
    tot gs i (fun j => (inc gs out x).getD j 0) n = tot gs i (fun j => out.getD j 0) n + if sec gs x = true ∧ org gs x.toNat = i then 1 else 0 := by
  by_cases hs : sec gs x = true
  · rw [tot_congr (g := fun j => out.getD j 0 + if x.toNat = j then 1 else 0) (fun j _ => by rw [inc_get hx]; simp [hs]), tot_bump]
    simp [hs, hn]
  · rw [tot_congr (g := fun j => out.getD j 0) (fun j _ => by rw [inc_get hx]; simp [hs])]
    simp [hs]

def refs12 (gs : List Gate) (i : Nat) : Nat → Int
  | 0 => 0
  | n + 1 => refs12 gs i n + if (gs.getD n g0).1 = 12 ∧ org gs n = i then 1 else 0

/-- The uses in the plain circuit, t gates of the graph on. -/
def V (gs : List Gate) (t : Nat) : List Int := usesG (pall gs).2 (plen gs t)

theorem pall_prefix (gs : List Gate) {i : Nat} (hi : i ≤ gs.length) : (pall gs).2.take (plen gs i) = (pall (gs.take i)).2 := by
  have H : ∀ k, i + k ≤ gs.length → ∃ r, (pall (gs.take (i + k))).2 = (pall (gs.take i)).2 ++ r := by
    intro k
    induction k with
    | zero => intro _; exact ⟨[], by simp⟩
    | succ k ih =>
      intro hk
      obtain ⟨r, hr⟩ := ih (by omega)
      rw [show i + (k + 1) = i + k + 1 by omega, pall_take gs (i + k) (by omega), pstep]
      split
      · exact ⟨r, hr⟩
      · exact ⟨r ++ [pgate (pall (gs.take (i + k))).1 gs[i + k]], by simp only [hr, List.append_assoc]⟩
  obtain ⟨r, hr⟩ := H (gs.length - i) (by omega)
  rw [show i + (gs.length - i) = gs.length by omega, List.take_length] at hr
  rw [hr, plen, List.take_left']
  rfl

theorem V_step {t : Nat} (hi : t < gs.length) : V gs (t + 1) = if gs[t].1 = 12 then V gs t else useG (pall gs).2 (V gs t) (pgate (pall (gs.take t)).1 gs[t]) := by
  by_cases h12 : gs[t].1 = 12
  · rw [if_pos h12, V, V, plen_succ gs hi, if_pos h12, Nat.add_zero]
  · rw [if_neg h12]
    have h1 := pall_prefix gs (show t + 1 ≤ gs.length by omega)
    have h2 := pall_prefix gs (show t ≤ gs.length by omega)
    simp only [V, usesG, h1, h2]
    rw [pall_take gs t hi, pstep, if_neg h12, List.foldl_append]
    rfl

theorem hd_of (h : GCan gs s p os) {x : Int} (hx : 0 ≤ x ∧ x < gs.length) : In (pall gs).2 (nw gs x.toNat) ∧ sec (pall gs).2 (nw gs x.toNat) = sec gs x := by
  have hs := pall_sem (S := []) (P := []) h gs.length (Nat.le_refl _)
  rw [List.take_length] at hs
  obtain ⟨h1, h2, _⟩ := hs.2.2 x.toNat (by omega)
  rw [show ((x.toNat : Nat) : Int) = x by omega] at h2
  exact ⟨h1, h2⟩

/-- One use of a gate, in the graph and in the plain circuit. -/
theorem both_inc (h : GCan gs s p os) {i : Nat} (hi : i < gs.length) (h12 : gs[i].1 ≠ 12) {x : Int} (hx : 0 ≤ x ∧ x < gs.length) {out v : List Int} (ho : out.length = gs.length) (hv : v.length = (pall gs).2.length) :
    tot gs i (fun j => (inc gs out x).getD j 0) gs.length - (inc (pall gs).2 v (nw gs x.toNat)).getD (nw gs i).toNat 0 = tot gs i (fun j => out.getD j 0) gs.length - v.getD (nw gs i).toNat 0 := by
  obtain ⟨h1, h2⟩ := hd_of h hx
  have h3 := (hd_of h (show 0 ≤ (i : Int) ∧ (i : Int) < gs.length by omega)).1
  simp only [toNat_nat] at h3
  unfold In at h1 h3
  rw [tot_inc (by omega) (by omega), inc_get (by omega), h2]
  have := nw_eq h.1.1 hi (show x.toNat < gs.length by omega) h12
  have e : ((nw gs x.toNat).toNat = (nw gs i).toNat) ↔ org gs x.toNat = i := by rw [← this]; omega
  simp only [e]
  omega

theorem V_len (gs : List Gate) (t : Nat) (ht : t ≤ gs.length) : (V gs t).length = (pall gs).2.length := by
  have h1 := plen_mono gs ht (Nat.le_refl _)
  have h2 : plen gs gs.length = (pall gs).2.length := by rw [plen, List.take_length]
  exact (usesG_bo (pall gs).2 (plen gs t) (by omega)).1

theorem tot_gates (h : GCan gs s p os) {i : Nat} (hi : i < gs.length) (h12 : gs[i].1 ≠ 12) : ∀ t, t ≤ gs.length →
    tot gs i (fun j => (usesG gs t).getD j 0) gs.length = (V gs t).getD (nw gs i).toNat 0 + refs12 gs i t
  | 0, _ => by
    have z : ∀ (n j : Nat), (List.replicate n (0 : Int)).getD j 0 = 0 := by
      intro n j
      simp only [List.getD_eq_getElem?_getD, List.getElem?_replicate]
      split <;> rfl
    have e0 : plen gs 0 = 0 := by simp [plen, pall]
    have hz : ∀ n, tot gs i (fun _ => 0) n = 0 := by
      intro n
      induction n with
      | zero => rfl
      | succ n ih => rw [tot, ih]; simp
    simp only [usesG, V, e0, List.take_zero, List.foldl_nil, z, hz, refs12]
    rfl
  | t + 1, ht => by
    have ih := tot_gates h hi h12 t (by omega)
    have hlt : t < gs.length := by omega
    have hin := g_in h.1.1 hlt
    have hbo := (usesG_bo gs t (by omega)).1
    have hVl := V_len gs t (by omega)
    have hu : usesG gs (t + 1) = useG gs (usesG gs t) gs[t] := by simp only [usesG, take_snoc _ hlt, List.foldl_append, List.foldl_cons, List.foldl_nil]
    rw [hu, V_step hlt, refs12, getD_nat _ _ _ hlt]
    by_cases ht12 : gs[t].1 = 12
    · have hb := ref_refs h.1.1 hlt ht12
      have hsec : sec gs gs[t].2.1 = true := by
        have := h.2 t hlt
        rw [getD_nat _ _ _ hlt] at this
        exact this ht12
      have e : takesL gs[t] = [gs[t].2.1] := by simp [takesL, tkG, ht12]
      rw [if_pos ht12, useG, e]
      simp only [List.foldl_cons, List.foldl_nil]
      rw [tot_inc (by omega) (by omega), ih, hsec, ← org_step h.1.1 hlt ht12]
      simp only [ht12, true_and]
      omega
    · rw [if_neg ht12]
      simp only [ht12, false_and, if_false, Int.add_zero]
      have htk : tkG (pgate (pall (gs.take t)).1 gs[t]).1 = tkG gs[t].1 := rfl
      rcases tkG_cases gs[t].1 with hk | hk | hk
      · have e1 : takesL gs[t] = [] := by simp [takesL, hk]
        have e2 : takesL (pgate (pall (gs.take t)).1 gs[t]) = [] := by simp [takesL, htk, hk]
        rw [useG, useG, e1, e2]
        exact ih
      · have b1 := hin.1 (by omega)
        have e1 : takesL gs[t] = [gs[t].2.1] := by simp [takesL, hk]
        have e2 : takesL (pgate (pall (gs.take t)).1 gs[t]) = [nw gs gs[t].2.1.toNat] := by
          rw [← nw_take gs (show gs[t].2.1.toNat < t by omega) (by omega)]
          simp [takesL, htk, hk, pgate]
        rw [useG, useG, e1, e2]
        simp only [List.foldl_cons, List.foldl_nil]
        have := both_inc h hi h12 (show 0 ≤ gs[t].2.1 ∧ gs[t].2.1 < gs.length by omega) hbo hVl
        omega
      · have b1 := hin.1 (by omega)
        have b2 := hin.2 (by omega)
        have e1 : takesL gs[t] = [gs[t].2.1, gs[t].2.2.1] := by simp [takesL, hk]
        have e2 : takesL (pgate (pall (gs.take t)).1 gs[t]) = [nw gs gs[t].2.1.toNat, nw gs gs[t].2.2.1.toNat] := by
          rw [← nw_take gs (show gs[t].2.1.toNat < t by omega) (by omega), ← nw_take gs (show gs[t].2.2.1.toNat < t by omega) (by omega)]
          simp [takesL, htk, hk, pgate]
        rw [useG, useG, e1, e2]
        simp only [List.foldl_cons, List.foldl_nil]
        have hl1 : (inc gs (usesG gs t) gs[t].2.1).length = gs.length := by unfold inc; split <;> simp [hbo]
        have hl2 : (inc (pall gs).2 (V gs t) (nw gs gs[t].2.1.toNat)).length = (pall gs).2.length := by unfold inc; split <;> simp [hVl]
        have t1 := both_inc h hi h12 (show 0 ≤ gs[t].2.1 ∧ gs[t].2.1 < gs.length by omega) hbo hVl
        have t2 := both_inc h hi h12 (show 0 ≤ gs[t].2.2.1 ∧ gs[t].2.2.1 < gs.length by omega) hl1 hl2
        omega

theorem tot_all (h : GCan gs s p os) {i : Nat} (hi : i < gs.length) (h12 : gs[i].1 ≠ 12) :
    tot gs i (fun j => (usesA gs os os.length).getD j 0) gs.length = (usesA (pall gs).2 (pout (pall gs).1 os) os.length).getD (nw gs i).toNat 0 + refs12 gs i gs.length := by
  have hlo : (pout (pall gs).1 os).length = os.length := by simp [pout]
  have H : ∀ j, j ≤ os.length → tot gs i (fun k => (usesA gs os j).getD k 0) gs.length = (usesA (pall gs).2 (pout (pall gs).1 os) j).getD (nw gs i).toNat 0 + refs12 gs i gs.length := by
    intro j
    induction j with
    | zero =>
      intro _
      have h0 := tot_gates h hi h12 gs.length (Nat.le_refl _)
      have e : plen gs gs.length = (pall gs).2.length := by rw [plen, List.take_length]
      simp only [V, e] at h0
      simpa only [usesA, List.take_zero, List.foldl_nil] using h0
    | succ j ih =>
      intro hj
      have ih := ih (by omega)
      have hb := out_in h.1.1 (show j < os.length by omega)
      have l1 := (usesA_bo gs os j (by omega)).1
      have l2 := (usesA_bo (pall gs).2 (pout (pall gs).1 os) j (by omega)).1
      have eo : (pout (pall gs).1 os)[j]'(by omega) = (os[j].1, nw gs os[j].2.toNat) := by simp only [pout, List.getElem_map, nw]
      have e1 : usesA gs os (j + 1) = inc gs (usesA gs os j) os[j].2 := by simp only [usesA, take_snoc os (by omega : j < os.length), List.foldl_append, List.foldl_cons, List.foldl_nil, useO]
      have e2 : usesA (pall gs).2 (pout (pall gs).1 os) (j + 1) = inc (pall gs).2 (usesA (pall gs).2 (pout (pall gs).1 os) j) (nw gs os[j].2.toNat) := by
        simp only [usesA, take_snoc (pout (pall gs).1 os) (by omega : j < (pout (pall gs).1 os).length), List.foldl_append, List.foldl_cons, List.foldl_nil, useO, eo]
      have := both_inc h hi h12 hb l1 l2
      rw [e1, e2]
      omega
  exact H os.length (Nat.le_refl _)

/-- The law's own list, m gates on. -/
def allL (gs : List Gate) (u : List Int) (m : Nat) : List Int := (List.range gs.length).map fun i => tot gs i (fun j => u.getD j 0) m - refs12 gs i m

theorem allL_get (gs : List Gate) (u : List Int) (m i : Nat) (hi : i < gs.length) : (allL gs u m).getD i 0 = tot gs i (fun j => u.getD j 0) m - refs12 gs i m := by
  rw [getD_nat _ _ _ (by simp [allL]; exact hi)]
  simp only [allL, List.getElem_map, List.getElem_range]

theorem refs12_b (gs : List Gate) (i : Nat) : ∀ m, 0 ≤ refs12 gs i m ∧ refs12 gs i m ≤ m
  | 0 => by simp [refs12]
  | m + 1 => by have := refs12_b gs i m; rw [refs12]; split <;> omega

theorem tot_b {u : List Int} {b : Int} (hb : ∀ j, 0 ≤ u.getD j 0 ∧ u.getD j 0 ≤ b) (i : Nat) : ∀ m : Nat, 0 ≤ tot gs i (fun j => u.getD j 0) m ∧ tot gs i (fun j => u.getD j 0) m ≤ m * b
  | 0 => by simp [tot]
  | m + 1 => by
    have h1 := tot_b hb i m
    have h2 := hb m
    have e : ((m + 1 : Nat) : Int) * b = m * b + b := by rw [Int.natCast_add, Int.add_mul]; omega
    rw [tot, e]
    split <;> omega

theorem l8_is (N : Nat) (h : GCan gs s p os) (hl : gs.length ≤ 150) (hN : 9000 < N) {u : List Int} (hul : u.length = gs.length) (hb : ∀ j, 0 ≤ u.getD j 0 ∧ u.getD j 0 ≤ 1000) :
    bautalaw20_GraphUses_l8 N gs u (0, List.replicate gs.length 0) = some (allL gs u gs.length) := by
  have hd : ((0, (0, (0, (0, false)))) : Gate) = g0 := rfl
  unfold bautalaw20_GraphUses_l8
  have := loop_up (s := fun v => bautalaw20_GraphUses_l8_T N gs u v.1 v.2) (fun i : Nat => ((i : Int), allL gs u i)) gs.length (allL gs u gs.length) (k := 0) (m := N) (by omega) (by omega) (fun i _ hi => ?_) ?_
  · have e : allL gs u 0 = List.replicate gs.length 0 := by
      apply List.ext_getElem (by simp [allL])
      intro j h1 h2
      simp [allL, tot, refs12]
    rw [e] at this
    exact this
  · have ho := ref_org N h.1.1 i hi (by omega)
    have hle := org_le h.1.1 hi
    have hol : org gs i < gs.length := by omega
    have hla : (allL gs u i).length = gs.length := by simp [allL]
    have t1 := tot_b (gs := gs) hb (org gs i) i
    have r1 := refs12_b gs (org gs i) i
    have hui := hb i
    have hmul : (i : Int) * 1000 ≤ 150 * 1000 := by omega
    have hg1 := allL_get gs u i (org gs i) hol
    have hset : ∀ y, y = tot gs (org gs i) (fun j => u.getD j 0) (i + 1) - refs12 gs (org gs i) (i + 1) → (allL gs u i).set (org gs i) y = allL gs u (i + 1) := by
      intro y hy
      apply List.ext_getElem (by simp [allL])
      intro j h1 h2
      have hj : j < gs.length := by simpa [allL] using h2
      simp only [List.getElem_set, allL, List.getElem_map, List.getElem_range]
      by_cases e : org gs i = j
      · subst e
        rw [if_pos rfl, hy]
      · rw [if_neg e, tot, refs12, if_neg e, if_neg (fun hh => e hh.2)]
        omega
    simp only [bautalaw20_GraphUses_l8_T, run_br, run_call, run_ret, ltI_eq, decide_eq_true_eq, ho, Option.bind_some, inRange_iff, toNat_nat, hd, getD_nat gs i g0 hi, hla, hul, List.length_set, getD_set_eq _ _ _ (by rw [hla]; exact hol : org gs i < (allL gs u i).length), List.set_set, beq_iffI, i64_succ (i := i) (by omega), hg1, i64_in (x := tot gs (org gs i) (fun j => u.getD j 0) i - refs12 gs (org gs i) i + u.getD i 0) (by omega), i64_in (x := tot gs (org gs i) (fun j => u.getD j 0) i - refs12 gs (org gs i) i + u.getD i 0 - 1) (by omega)]
    have hr : 0 ≤ (org gs i : Int) ∧ (org gs i : Int) < gs.length := by omega
    have hr2 : 0 ≤ (i : Int) ∧ (i : Int) < gs.length := by omega
    rw [if_pos (by omega), if_pos hr, if_pos hr2, if_pos hr, if_pos hr2]
    by_cases h12 : gs[i].1 = 12
    · rw [if_pos h12, if_pos hr, if_pos hr, hset _ (by rw [tot, refs12, if_pos rfl, if_pos ⟨by rw [getD_nat _ _ _ hi]; exact h12, rfl⟩]; omega)]
    · rw [if_neg h12, hset _ (by rw [tot, refs12, if_pos rfl, if_neg (fun hh => h12 (by rw [← getD_nat gs i g0 hi]; exact hh.1))]; omega)]
  · simp [bautalaw20_GraphUses_l8_T]
end

theorem graphUses_N (N : Nat) (hN : 9000 < N) (c : CircT) (h : WF circTy c) : bautalaw20_GraphUses N c.1 c.2.1 c.2.2.1 c.2.2.2 = some true := by
  have hd : ((0, (0, (0, (0, false)))) : Gate) = g0 := rfl
  obtain ⟨gs, s, p, os⟩ := c
  have hw : Wds gs := wds_of h.1
  simp only [bautalaw20_GraphUses, bautalaw20_GraphUses_T, run_call, few_is, Option.bind_some, lives_holds N hN, run_br, run_ret]
  by_cases hf : gs.length ≤ 150 ∧ os.length ≤ 100
  · have hl : gs.length ≤ 8000 := by omega
    have ho : os.length ≤ 8000 := by omega
    simp only [decide_eq_true hf, ref_gcan N gs s p os hw hl ho hN, Option.bind_some]
    by_cases hc : GCan gs s p os
    · have hcap : (leI 0 (gs.length : Int) && (leI (gs.length : Int) (gs.length : Int) && (ltI ((gs.length : Int) * 8) 140737488355328 && ltI (gs.length : Int) 140737488355328))) = true := by
        simp only [leI_eq, ltI_eq, Bool.and_eq_true, decide_eq_true_eq]; omega
      have hps : plainS gs s p os = (s, p, (pall gs).2, pout (pall gs).1 os) := by rw [plainS, if_pos hc]
      have hpl := pall_len gs gs.length (Nat.le_refl _)
      rw [List.take_length] at hpl
      have hplo : (pout (pall gs).1 os).length = os.length := by simp [pout]
      have hc2 : GCan (pall gs).2 s p (pout (pall gs).1 os) := by
        have hk : FewK (pall gs).2 := by
          have hs := pall_sem (S := []) (P := []) hc gs.length (Nat.le_refl _)
          rw [List.take_length] at hs
          intro i hi
          rw [getD_nat _ _ _ hi]
          exact hs.2.1 _ (List.getElem_mem hi)
        have ha : asK 5 (pall gs).2 = (pall gs).2 := by
          apply List.ext_getElem (by simp [asK])
          intro i h1 h2
          have := hk i h2
          rw [getD_nat _ _ _ h2] at this
          simp only [asK, List.getElem_map, asG]
          rw [if_neg (by omega)]
        refine ⟨by rw [ha]; exact ⟨plain_can hc, hk⟩, fun i hi h12 => ?_⟩
        have := hk i hi
        omega
      have hu1 : usesS gs s p os = usesA gs os os.length := by rw [usesS, if_pos hc]
      have hu2 : usesS (pall gs).2 s p (pout (pall gs).1 os) = usesA (pall gs).2 (pout (pall gs).1 os) os.length := by rw [usesS, if_pos hc2, hplo]
      have bo := usesA_bo gs os os.length (Nat.le_refl _)
      have bo2 := usesA_bo (pall gs).2 (pout (pall gs).1 os) os.length (by omega)
      have hl8 := l8_is N hc hf.1 hN bo.1 (fun j => by have := bo.2 j; omega)
      have hl16 : bautalaw20_GraphUses_l16 N gs (usesA (pall gs).2 (pout (pall gs).1 os) os.length) (allL gs (usesA gs os os.length) gs.length) (0, 0) = some (.inr ((pall gs).2.length : Int)) := by
        unfold bautalaw20_GraphUses_l16
        have e0 : plen gs 0 = 0 := by simp [plen, pall]
        have eL : plen gs gs.length = (pall gs).2.length := by rw [plen, List.take_length]
        have := loop_up (s := fun v => bautalaw20_GraphUses_l16_T N gs (usesA (pall gs).2 (pout (pall gs).1 os) os.length) (allL gs (usesA gs os os.length) gs.length) v.1 v.2) (fun i : Nat => ((plen gs i : Int), (i : Int))) gs.length (Sum.inr ((pall gs).2.length : Int)) (k := 0) (m := N) (by omega) (by omega) (fun i _ hi => ?_) ?_
        · rw [e0] at this
          exact this
        · have hpi := plen_mono gs (show i + 1 ≤ gs.length by omega) (Nat.le_refl _)
          have hps := plen_succ gs hi
          have hlA : (allL gs (usesA gs os os.length) gs.length).length = gs.length := by simp [allL]
          simp only [bautalaw20_GraphUses_l16_T, run_br, run_ret, ltI_eq, leI_eq, decide_eq_true_eq, inRange_iff, toNat_nat, hd, getD_nat gs i g0 hi, bo2.1, hlA, beq_iffI, bne_iffI, i64_succ (i := i) (by omega), i64_succ (i := plen gs i) (by omega)]
          have hr2 : 0 ≤ (i : Int) ∧ (i : Int) < gs.length := by omega
          rw [if_pos (by omega), if_pos hr2]
          by_cases h12 : gs[i].1 = 12
          · rw [if_pos h12, hps, if_pos h12]
            simp
          · rw [if_neg h12] at hps ⊢
            have hta := tot_all hc hi h12
            have hal := allL_get gs (usesA gs os os.length) gs.length i hi
            have hnw := nw_new gs hi h12
            rw [hnw, toNat_nat] at hta
            have heq : (usesA (pall gs).2 (pout (pall gs).1 os) os.length).getD (plen gs i) 0 = (allL gs (usesA gs os os.length) gs.length).getD i 0 := by rw [hal, hta]; omega
            rw [if_neg (by omega), if_pos (by omega), if_pos hr2, if_neg (by rw [heq]; simp), hps]
        · have : ¬ ((gs.length : Int) < gs.length) := by omega
          simp only [bautalaw20_GraphUses_l16_T, run_br, run_ret, ltI_eq, decide_eq_true_eq, if_neg this, eL]
      have j3 : bautalaw20_GraphUses_j3 N gs s p os = some true := by
        simp only [bautalaw20_GraphUses_j3, bautalaw20_GraphUses_j3_T, hcap, run_call, real_uses N gs s p os hw hl ho hN, real_gplain N gs s p os hw hl ho hN, hps, real_uses N (pall gs).2 s p (pout (pall gs).1 os) (plain_wds hw) (by omega) (by omega) hN, Option.bind_some, hu1, hu2, bo.1, bo2.1, Int.toNat_natCast, hl8, hl16, run_br, run_ret, run_inr, lives_holds N hN]
        simp
      simp only [decide_eq_true hc, j3]
      simp
    · simp [hc]
  · simp [hf]

theorem graphUses_law (c : CircT) (h : WF circTy c) : bautalaw20_GraphUses 9001 c.1 c.2.1 c.2.2.1 c.2.2.2 = some true := graphUses_N 9001 (by omega) c h
end Go.Proofs.YtgdbnamlnemfmaaV
