/- Graphs without fresh shares: both functions; what their gates' words are. -/
import Derived.Test.YtgdbnamlnemfmaaPGraphW
import Derived.Test.YtgdbnamlnemfmaaPSem
namespace Go.Proofs.YtgdbnamlnemfmaaV
set_option linter.unusedVariables false
set_option linter.unusedSimpArgs false

def pgate (now : List Int) (g : Gate) : Gate := (g.1, (if 1 ≤ tkG g.1 then now.getD g.2.1.toNat 0 else g.2.1, (if 2 ≤ tkG g.1 then now.getD g.2.2.1.toNat 0 else g.2.2.1, (g.2.2.2.1, g.2.2.2.2))))
def pstep (st : List Int × List Gate) (g : Gate) : List Int × List Gate :=
  if g.1 = 12 then (st.1 ++ [st.1.getD g.2.1.toNat 0], st.2) else (st.1 ++ [(st.2.length : Int)], st.2 ++ [pgate st.1 g])
def pall (gs : List Gate) : List Int × List Gate := gs.foldl pstep ([], [])
theorem pall_take (gs : List Gate) (i : Nat) (h : i < gs.length) : pall (gs.take (i + 1)) = pstep (pall (gs.take i)) gs[i] := by
  rw [take_snoc _ h]; simp only [pall, List.foldl_append, List.foldl_cons, List.foldl_nil]
theorem pall_len (gs : List Gate) : ∀ i, i ≤ gs.length → (pall (gs.take i)).1.length = i ∧ (pall (gs.take i)).2.length ≤ i
  | 0, _ => by simp [pall]
  | i + 1, h => by
    have ih := pall_len gs i (by omega)
    rw [pall_take gs i (by omega)]
    unfold pstep
    split <;> simp <;> omega
theorem pall_now (gs : List Gate) {i j : Nat} (hj : j < i) (hi : i ≤ gs.length) : (pall (gs.take i)).1.getD j 0 = (pall (gs.take (j + 1))).1.getD j 0 := by
  induction i with
  | zero => omega
  | succ i ih =>
    rcases Nat.lt_or_ge j i with h | h
    · rw [← ih h (by omega), pall_take gs i (by omega)]
      have hl := (pall_len gs i (by omega)).1
      unfold pstep
      split <;> exact getD_left _ _ _ (by omega)
    · obtain rfl : j = i := by omega
      rfl

def pout (now : List Int) (os : List GOut) : List GOut := os.map fun o => (o.1, now.getD o.2.toNat 0)
def plainS (gs : List Gate) (s p : Int) (os : List GOut) : Int × Int × List Gate × List GOut := if GCan gs s p os then (s, p, (pall gs).2, pout (pall gs).1 os) else (0, 0, [], [])

theorem pl11 (N : Nat) (now : List Int) (g : Gate) (hN : 9000 < N) (h1 : 1 ≤ tkG g.1 → 0 ≤ g.2.1 ∧ g.2.1 < now.length) (h2 : 2 ≤ tkG g.1 → 0 ≤ g.2.2.1 ∧ g.2.2.1 < now.length) :
    graph_Plain_l11 N (takesL g).length now (takesL g) (0, g.2.1, g.2.2.1) = some ((pgate now g).2.1, (pgate now g).2.2.1) := by
  have e1 : IntKind.i64.wrap (0 + 1) = 1 := rfl
  have e2 : IntKind.i64.wrap (1 + 1) = 2 := rfl
  unfold graph_Plain_l11
  rcases tkG_cases g.1 with ht | ht | ht
  · have e : takesL g = [] := by simp [takesL, ht]
    rw [e]
    refine loop_stop (by omega) ?_
    simp [graph_Plain_l11_T, pgate, ht]
  · have e : takesL g = [g.2.1] := by simp [takesL, ht]
    have b1 := h1 (by omega)
    rw [e]
    refine loop_step (x' := (1, now.getD g.2.1.toNat 0, g.2.2.1)) (by omega) ?_ (loop_stop (by omega) ?_)
    · simp [graph_Plain_l11_T, b1.1, b1.2]
      rfl
    · simp [graph_Plain_l11_T, pgate, ht]
  · have e : takesL g = [g.2.1, g.2.2.1] := by simp [takesL, ht]
    have b1 := h1 (by omega)
    have b2 := h2 (by omega)
    rw [e]
    refine loop_step (x' := (1, now.getD g.2.1.toNat 0, g.2.2.1)) (by omega) ?_ (loop_step (x' := (2, now.getD g.2.1.toNat 0, now.getD g.2.2.1.toNat 0)) (by omega) ?_ (loop_stop (by omega) ?_))
    · simp [graph_Plain_l11_T, b1.1, b1.2]
      rfl
    · simp [graph_Plain_l11_T, b2.1, b2.2]
      rfl
    · simp [graph_Plain_l11_T, pgate, ht]

theorem real_gplain (N : Nat) (gs : List Gate) (s p : Int) (os : List GOut) (hw : Wds gs) (hl : gs.length ≤ 8000) (ho : os.length ≤ 8000) (hN : 9000 < N) : graph_Plain N gs s p os = some (plainS gs s p os) := by
  have hd : ((0, (0, (0, (0, false)))) : Gate) = g0 := rfl
  simp only [graph_Plain, graph_Plain_T, run_br, run_call, run_ret, real_gcan N gs s p os hw hl ho hN, Option.bind_some, plainS]
  by_cases hc : GCan gs s p os
  · have l6 : graph_Plain_l6 N gs gs.length (0, [], []) = some (pall gs) := by
      unfold graph_Plain_l6
      have := loop_up (s := fun v => graph_Plain_l6_T N gs gs.length v.1 v.2.1 v.2.2) (fun i : Nat => ((i : Int), (pall (gs.take i)).1, (pall (gs.take i)).2)) gs.length (pall gs) (k := 0) (m := N) (by omega) (by omega) (fun i _ hi => ?_) ?_
      · exact this
      · obtain ⟨n1, n2⟩ := pall_len gs i (by omega)
        have hin := g_in hc.1.1 hi
        have hl11 := pl11 N (pall (gs.take i)).1 gs[i] hN (by rw [n1]; intro h; have := hin.1 h; omega) (by rw [n1]; intro h; have := hin.2 h; omega)
        have c0 : ltI (i : Int) (gs.length : Int) = true := by rw [ltI_eq, decide_eq_true_eq]; omega
        have c1 : ltI (((i : Int) + 1) * 8) 140737488355328 = true := by rw [ltI_eq, decide_eq_true_eq]; omega
        have c2 : ltI ((((pall (gs.take i)).2.length : Int) + 1) * 32) 140737488355328 = true := by rw [ltI_eq, decide_eq_true_eq]; omega
        have hr : 0 ≤ (i : Int) ∧ (i : Int) < gs.length := by omega
        simp only [graph_Plain_l6_T, run_br, run_call, run_ret, c0, c1, c2, if_true, inRange_iff, toNat_nat, hd, getD_nat _ _ _ hi, beq_iffI, n1, real_takesL N gs[i] ⟨kind_ge hc.1.1 hi, kind_le hc.1.2 hi⟩, hl11, Option.bind_some, i64_succ (i := i) (by omega), pall_take gs i hi, pstep, if_pos hr]
        by_cases h12 : gs[i].1 = 12
        · have b1 := hin.1 (by rw [h12]; decide)
          rw [if_pos h12, if_pos h12, if_pos b1]
        · rw [if_neg h12, if_neg h12]
          rfl
      · simp [graph_Plain_l6_T]
    have n1 := (pall_len gs gs.length (Nat.le_refl _)).1
    rw [List.take_length] at n1
    have l21 : graph_Plain_l21 N os os.length (pall gs).1 (0, []) = some (pout (pall gs).1 os) := by
      unfold graph_Plain_l21
      have := loop_up (s := fun v => graph_Plain_l21_T N os os.length (pall gs).1 v.1 v.2) (fun i : Nat => ((i : Int), pout (pall gs).1 (os.take i))) os.length (pout (pall gs).1 os) (k := 0) (m := N) (by omega) (by omega) (fun i _ hi => ?_) ?_
      · exact this
      · have hb := out_in hc.1.1 hi
        have hll : (pout (pall gs).1 (os.take i)).length = i := by simp [pout]; omega
        simp only [graph_Plain_l21_T, run_br, run_ret, ltI_eq, decide_eq_true_eq, inRange_iff, toNat_nat, getD_nat _ _ _ hi, n1, hll, i64_succ (i := i) (by omega)]
        rw [if_pos (by omega), if_pos (by omega), if_pos hb, if_pos (by omega), take_snoc _ hi]
        simp only [pout, List.map_append, List.map_cons, List.map_nil]
      · simp [graph_Plain_l21_T]
    simp [hc, l6, l21]
  · simp [hc]

/-! ### Origins -/
def orgF (gs : List Gate) : Nat → Nat → Nat
  | 0, i => i
  | n + 1, i => if (gs.getD i g0).1 = 12 then orgF gs n (gs.getD i g0).2.1.toNat else i
def org (gs : List Gate) (i : Nat) : Nat := orgF gs i i

section
variable {gs : List Gate} {s p : Int} {os : List GOut}

theorem orgF_enough (h : CanOK (asK 5 gs) s p os) : ∀ (n i : Nat), i < gs.length → i ≤ n → orgF gs n i = org gs i ∧ org gs i ≤ i ∧ (gs.getD (org gs i) g0).1 ≠ 12
  | 0, i, hi, hn => by
    obtain rfl : i = 0 := by omega
    refine ⟨rfl, Nat.le_refl _, fun h12 => ?_⟩
    have h12 : (gs.getD 0 g0).1 = 12 := h12
    rw [getD_nat _ _ _ hi] at h12
    have := ref_refs h hi h12
    omega
  | n + 1, i, hi, hn => by
    by_cases h12 : (gs.getD i g0).1 = 12
    · have hb := ref_refs h hi (by rw [← getD_nat _ i g0 hi]; exact h12)
      have hge : (gs.getD i g0).2.1 = gs[i].2.1 := by rw [getD_nat _ _ _ hi]
      obtain ⟨m, rfl⟩ : ∃ m, i = m + 1 := ⟨i - 1, by omega⟩
      have a1 := orgF_enough h n (gs.getD (m + 1) g0).2.1.toNat (by omega) (by omega)
      have a2 := orgF_enough h m (gs.getD (m + 1) g0).2.1.toNat (by omega) (by omega)
      have e : org gs (m + 1) = org gs (gs.getD (m + 1) g0).2.1.toNat := by
        show orgF gs (m + 1) (m + 1) = _
        rw [orgF, if_pos h12, a2.1]
      rw [e]
      exact ⟨by rw [orgF, if_pos h12, a1.1], by have := a1.2.1; omega, a1.2.2⟩
    · have e : org gs i = i := by
        show orgF gs i i = i
        cases i with
        | zero => rfl
        | succ m => rw [orgF, if_neg h12]
      rw [e]
      exact ⟨by rw [orgF, if_neg h12], Nat.le_refl _, h12⟩

theorem org_le (h : CanOK (asK 5 gs) s p os) {i : Nat} (hi : i < gs.length) : org gs i ≤ i := (orgF_enough h i i hi (Nat.le_refl _)).2.1
theorem org_ne (h : CanOK (asK 5 gs) s p os) {i : Nat} (hi : i < gs.length) : (gs.getD (org gs i) g0).1 ≠ 12 := (orgF_enough h i i hi (Nat.le_refl _)).2.2
theorem org_self (h : CanOK (asK 5 gs) s p os) {i : Nat} (hi : i < gs.length) (h12 : gs[i].1 ≠ 12) : org gs i = i := by
  show orgF gs i i = i
  cases i with
  | zero => rfl
  | succ m => rw [orgF, if_neg (by rw [getD_nat _ _ _ hi]; exact h12)]
theorem org_step (h : CanOK (asK 5 gs) s p os) {i : Nat} (hi : i < gs.length) (h12 : gs[i].1 = 12) : org gs i = org gs gs[i].2.1.toNat := by
  have hb := ref_refs h hi h12
  obtain ⟨m, rfl⟩ : ∃ m, i = m + 1 := ⟨i - 1, by omega⟩
  have a2 := orgF_enough h m gs[m + 1].2.1.toNat (by omega) (by omega)
  show orgF gs (m + 1) (m + 1) = _
  rw [orgF, if_pos (by rw [getD_nat _ _ _ hi]; exact h12), getD_nat _ _ _ hi, a2.1]

theorem ref_org (N : Nat) (h : CanOK (asK 5 gs) s p os) (i : Nat) (hi : i < gs.length) (hN : gs.length < N) : bautaref20_Origin N gs i = some (org gs i : Int) := by
  have hd : ((0, (0, (0, (0, false)))) : Gate) = g0 := rfl
  have l1 : bautaref20_Origin_l1 N gs i = some (org gs i : Int) := by
    unfold bautaref20_Origin_l1
    refine loop_st (s := fun v => bautaref20_Origin_l1_T N gs v) (fun i : Nat => (i : Int)) (fun i => i) (fun i => i < gs.length) (fun i => (org gs i : Int)) (fun i hi => ?_) N i hi (by omega)
    simp only [bautaref20_Origin_l1_T, run_br, run_ret, inRange_iff, toNat_nat, hd, getD_nat _ _ _ hi, beq_iffI]
    rw [if_pos (by omega)]
    by_cases h12 : gs[i].1 = 12
    · have hb := ref_refs h hi h12
      refine .inl ⟨gs[i].2.1.toNat, ?_, by omega, by omega, by rw [org_step h hi h12]⟩
      rw [if_pos h12, if_pos (by omega)]
      simp; omega
    · refine .inr ?_
      rw [if_neg h12, org_self h hi h12]
  simp only [bautaref20_Origin, bautaref20_Origin_T, run_call, l1, Option.bind_some, run_ret]

/-- A gate goes where its origin goes. -/
theorem now_org (h : CanOK (asK 5 gs) s p os) : ∀ (j : Nat), j < gs.length → (pall (gs.take (j + 1))).1.getD j 0 = (pall (gs.take (org gs j + 1))).1.getD (org gs j) 0 := by
  intro j
  induction j using Nat.strongRecOn with
  | ind j ih =>
    intro hj
    by_cases h12 : gs[j].1 = 12
    · have hb := ref_refs h hj h12
      have hl := (pall_len gs j (by omega)).1
      rw [org_step h hj h12, ← ih gs[j].2.1.toNat (by omega) (by omega), pall_take gs j hj]
      unfold pstep
      rw [if_pos h12, getD_last _ _ _ hl.symm, pall_now gs (by omega) (by omega)]
    · rw [org_self h hj h12]
end

/-- What the document's list of places is, i gates on. -/
def toS (gs : List Gate) (i : Nat) : List Int := (List.range gs.length).map fun j => if j < i ∧ (gs.getD j g0).1 ≠ 12 then (pall (gs.take (j + 1))).1.getD j 0 else 0

theorem toS_get (gs : List Gate) (i j : Nat) (hj : j < gs.length) : (toS gs i).getD j 0 = if j < i ∧ (gs.getD j g0).1 ≠ 12 then (pall (gs.take (j + 1))).1.getD j 0 else 0 := by
  rw [getD_nat _ _ _ (by simp [toS]; exact hj)]
  simp only [toS, List.getElem_map, List.getElem_range]

theorem toS_org {gs : List Gate} {s p : Int} {os : List GOut} (h : CanOK (asK 5 gs) s p os) {i j : Nat} (hj : j < i) (hi : i ≤ gs.length) : (toS gs i).getD (org gs j) 0 = (pall (gs.take i)).1.getD j 0 := by
  have hle := org_le h (show j < gs.length by omega)
  rw [toS_get gs i _ (by omega), if_pos ⟨by omega, org_ne h (by omega)⟩, pall_now gs hj hi, now_org h j (by omega)]

theorem ref_gplain (N : Nat) (gs : List Gate) (s p : Int) (os : List GOut) (hw : Wds gs) (hl : gs.length ≤ 8000) (ho : os.length ≤ 8000) (hN : 9000 < N) : bautaref20_Plain N gs s p os = some (plainS gs s p os) := by
  have hd : ((0, (0, (0, (0, false)))) : Gate) = g0 := rfl
  have hcap : (leI 0 (gs.length : Int) && (leI (gs.length : Int) (gs.length : Int) && (ltI ((gs.length : Int) * 8) 140737488355328 && ltI (gs.length : Int) 140737488355328))) = true := by
    simp only [leI_eq, ltI_eq, Bool.and_eq_true, decide_eq_true_eq]; omega
  simp only [bautaref20_Plain, bautaref20_Plain_T, ref_gcan N gs s p os hw hl ho hN, hcap]
  by_cases hc : GCan gs s p os
  · have l5 : bautaref20_Plain_l5 N gs (0, List.replicate gs.length 0, []) = some (toS gs gs.length, (pall gs).2) := by
      unfold bautaref20_Plain_l5
      have := loop_up (s := fun v => bautaref20_Plain_l5_T N gs v.1 v.2.1 v.2.2) (fun i : Nat => ((i : Int), toS gs i, (pall (gs.take i)).2)) gs.length (toS gs gs.length, (pall gs).2) (k := 0) (m := N) (by omega) (by omega) (fun i _ hi => ?_) ?_
      · have e : toS gs 0 = List.replicate gs.length 0 := by
          apply List.ext_getElem (by simp [toS])
          intro j h1 h2
          simp [toS]
        rw [e] at this
        exact this
      · obtain ⟨n1, n2⟩ := pall_len gs i (by omega)
        have hin := g_in hc.1.1 hi
        have hlt : (toS gs i).length = gs.length := by simp [toS]
        have hset : gs[i].1 ≠ 12 → (toS gs i).set i ((pall (gs.take i)).2.length : Int) = toS gs (i + 1) := by
          intro h12
          apply List.ext_getElem (by simp [toS])
          intro j h1 h2
          have hj : j < gs.length := by simpa [toS] using h2
          simp only [List.getElem_set, toS, List.getElem_map, List.getElem_range]
          by_cases e : i = j
          · subst e
            rw [if_pos rfl, if_pos ⟨by omega, by rw [getD_nat _ _ _ hi]; exact h12⟩, pall_take gs i hi, pstep, if_neg h12, getD_last _ _ _ n1.symm]
          · rw [if_neg e]
            by_cases hji : j < i
            · simp only [hji, show j < i + 1 by omega, true_and]
            · rw [if_neg (fun h => hji h.1), if_neg (fun h => by omega)]
        have hsame : gs[i].1 = 12 → toS gs i = toS gs (i + 1) := by
          intro h12
          simp only [toS]
          apply List.map_congr_left
          intro j hj
          by_cases e : j = i
          · subst e
            rw [if_neg (fun h => by omega), if_neg (fun h => h.2 (by rw [getD_nat _ _ _ hi]; exact h12))]
          · by_cases hji : j < i
            · simp only [hji, show j < i + 1 by omega, true_and]
            · rw [if_neg (fun h => hji h.1), if_neg (fun h => by omega)]
        by_cases h12 : gs[i].1 = 12
        · simp only [bautaref20_Plain_l5_T, run_br, run_ret, ltI_eq, decide_eq_true_eq, inRange_iff, toNat_nat, hd, getD_nat _ _ _ hi, beq_iffI, i64_succ (i := i) (by omega)]
          rw [if_pos (by omega), if_pos (by omega), if_pos h12, pall_take gs i hi, pstep, if_pos h12, hsame h12]
        · have j13 : ∀ a b, bautaref20_Plain_j13 N i (toS gs i) gs[i].1 a b gs[i].2.2.2.1 gs[i].2.2.2.2 (pall (gs.take i)).2 = some (toS gs (i + 1), (pall (gs.take i)).2 ++ [(gs[i].1, (a, (b, (gs[i].2.2.2.1, gs[i].2.2.2.2))))]) := by
            intro a b
            simp only [bautaref20_Plain_j13, bautaref20_Plain_j13_T, run_br, run_ret, inRange_iff, toNat_nat, hlt, ltI_eq, decide_eq_true_eq]
            rw [if_pos (by omega), if_pos (by omega), hset h12]
          have hto : ∀ x : Int, 0 ≤ x ∧ x < i → bautaref20_Origin N gs x = some (org gs x.toNat : Int) ∧ (0 ≤ (org gs x.toNat : Int) ∧ (org gs x.toNat : Int) < gs.length) ∧ (toS gs i).getD (org gs x.toNat) 0 = (pall (gs.take i)).1.getD x.toNat 0 := by
            intro x hx
            have h1 := ref_org N hc.1.1 x.toNat (by omega) (by omega)
            rw [show ((x.toNat : Nat) : Int) = x by omega] at h1
            have h2 := org_le hc.1.1 (show x.toNat < gs.length by omega)
            exact ⟨h1, by omega, toS_org hc.1.1 (by omega) (by omega)⟩
          have hres : (pall (gs.take (i + 1))).2 = (pall (gs.take i)).2 ++ [pgate (pall (gs.take i)).1 gs[i]] := by rw [pall_take gs i hi, pstep, if_neg h12]
          rw [hres]
          simp only [bautaref20_Plain_l5_T, bautaref20_Plain_j11, bautaref20_Plain_j11_T, run_br, run_call, run_ret, ltI_eq, decide_eq_true_eq, inRange_iff, toNat_nat, hd, getD_nat _ _ _ hi, beq_iffI, ref_tkG, Option.bind_some, hlt, i64_succ (i := i) (by omega), j13, pgate]
          rw [if_pos (by omega), if_pos (by omega), if_neg h12]
          rcases tkG_cases gs[i].1 with ht | ht | ht
          · simp [ht]
          · obtain ⟨o1, o2, o3⟩ := hto _ (hin.1 (by omega))
            simp only [ht, o1, Option.bind_some, o2, and_self, toNat_nat, o3, show (0 : Int) < 1 by decide, show ¬ (1 : Int) < 1 by decide, show (1 : Int) ≤ 1 by decide, show ¬ (2 : Int) ≤ 1 by decide, if_true, if_false]
          · obtain ⟨o1, o2, o3⟩ := hto _ (hin.1 (by omega))
            obtain ⟨q1, q2, q3⟩ := hto _ (hin.2 (by omega))
            simp only [ht, o1, q1, Option.bind_some, o2, q2, and_self, toNat_nat, o3, q3, show (0 : Int) < 2 by decide, show (1 : Int) < 2 by decide, show (1 : Int) ≤ 2 by decide, show (2 : Int) ≤ 2 by decide, if_true]
      · simp [bautaref20_Plain_l5_T]
    have hlt : (toS gs gs.length).length = gs.length := by simp [toS]
    have l16 : bautaref20_Plain_l16 N gs os (toS gs gs.length) (0, []) = some (pout (pall gs).1 os) := by
      unfold bautaref20_Plain_l16
      have := loop_up (s := fun v => bautaref20_Plain_l16_T N gs os (toS gs gs.length) v.1 v.2) (fun i : Nat => ((i : Int), pout (pall gs).1 (os.take i))) os.length (pout (pall gs).1 os) (k := 0) (m := N) (by omega) (by omega) (fun i _ hi => ?_) ?_
      · exact this
      · have hb := out_in hc.1.1 hi
        have hll : (pout (pall gs).1 (os.take i)).length = i := by simp [pout]; omega
        have h1 := ref_org N hc.1.1 os[i].2.toNat (by omega) (by omega)
        rw [show ((os[i].2.toNat : Nat) : Int) = os[i].2 by omega] at h1
        have h2 := org_le hc.1.1 (show os[i].2.toNat < gs.length by omega)
        have h3 := toS_org hc.1.1 (show os[i].2.toNat < gs.length by omega) (Nat.le_refl _)
        rw [List.take_length] at h3
        simp only [bautaref20_Plain_l16_T, run_br, run_call, run_ret, ltI_eq, decide_eq_true_eq, inRange_iff, toNat_nat, getD_nat _ _ _ hi, h1, Option.bind_some, hlt, h3, hll, i64_succ (i := i) (by omega)]
        rw [if_pos (by omega), if_pos (by omega), if_pos (by omega), if_pos (by omega), if_pos (by omega), take_snoc _ hi]
        simp only [pout, List.map_append, List.map_cons, List.map_nil]
      · simp [bautaref20_Plain_l16_T]
    simp only [run_call, run_br, run_ret, Option.bind_some, hc, decide_true, Bool.not_true, Bool.false_eq_true, if_false, if_true, Int.toNat_natCast, l5, l16, plainS]
  · simp only [run_call, run_br, run_ret, Option.bind_some, hc, decide_false, plainS]
    simp
end Go.Proofs.YtgdbnamlnemfmaaV
