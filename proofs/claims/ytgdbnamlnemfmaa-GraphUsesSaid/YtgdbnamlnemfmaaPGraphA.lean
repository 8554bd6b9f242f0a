/- What is a graph: both functions that tell it. -/
import Derived.Test.YtgdbnamlnemfmaaPPlain
namespace Go.Proofs.YtgdbnamlnemfmaaV
set_option linter.unusedVariables false
set_option linter.unusedSimpArgs false

theorem few_is (N : Nat) (gs : List Gate) (os : List GOut) : bautalaw20_few N gs os = some (decide (gs.length ≤ 150 ∧ os.length ≤ 100)) := by
  simp only [bautalaw20_few, bautalaw20_few_T, run_br, run_ret, leI_eq, decide_eq_true_eq]
  by_cases h : gs.length ≤ 150
  · rw [if_pos (by omega)]
    congr 1
    rw [decide_eq_decide]
    omega
  · rw [if_neg (by omega)]
    simp [h]

theorem clone_is (N : Nat) (gs : List Gate) (h : gs.length ≤ 9000) : slices_Clone N gs = some gs := by
  have hc : ltI ((0 + (gs.length : Int)) * 32) 140737488355328 = true := by rw [ltI_eq, decide_eq_true_eq]; omega
  unfold slices_Clone slices_Clone_T
  rw [hc]
  cases gs with
  | nil => exact anyR_self _
  | cons g gs => rfl

/-- With a kind in the place of each fresh one. -/
def asG (k : Int) (g : Gate) : Gate := if g.1 = 12 then (k, g.2) else g
def asK (k : Int) (gs : List Gate) : List Gate := gs.map (asG k)
theorem asK_len (k : Int) (gs : List Gate) : (asK k gs).length = gs.length := by simp [asK]
theorem asK_get (k : Int) (gs : List Gate) (i : Nat) (h : i < gs.length) : (asK k gs).getD i g0 = asG k gs[i] := by
  rw [getD_nat _ _ _ (by rw [asK_len]; exact h)]
  simp [asK]
theorem asK_snoc (k : Int) (gs : List Gate) (i : Nat) (h : i < gs.length) : asK k (gs.take (i + 1)) = asK k (gs.take i) ++ [asG k gs[i]] := by
  rw [take_snoc _ h]; simp only [asK, List.map_append, List.map_cons, List.map_nil]

theorem with_is (N : Nat) (gs : List Gate) (k : Int) (hw : Wds gs) (h : gs.length ≤ 9000) (hN : 9000 < N) : graph_with N gs k 0 = some (asK k gs) := by
  have l3 : graph_with_l3 N k 0 gs.length (0, gs) = some (asK k gs) := by
    unfold graph_with_l3
    have := loop_up (s := fun v => graph_with_l3_T N k 0 gs.length v.1 v.2) (fun i : Nat => ((i : Int), asK k (gs.take i) ++ gs.drop i)) gs.length (asK k gs) (k := 0) (m := N) (by omega) (by omega) (fun i _ hi => ?_) ?_
    · simpa [asK] using this
    · have hli : i = (asK k (gs.take i)).length := by rw [asK_len]; simp; omega
      have hwi := hw i hi
      rw [getD_nat _ _ _ hi] at hwi
      have hw2 : IntKind.u32.wrap (gs[i].2.2.2.1 + 0) = gs[i].2.2.2.1 := by rw [Int.add_zero]; exact u32_in hwi
      rw [asK_snoc k gs i hi, drop_cons gs hi]
      simp only [graph_with_l3_T, run_br, run_ret, ltI_eq, decide_eq_true_eq, inRange_iff, toNat_nat, mid_get _ _ _ _ hli, mid_set _ _ _ _ hli, beq_iffI, i64_succ (i := i) (by omega), List.length_append, List.length_cons, List.length_drop, hw2]
      rw [if_pos (by omega), if_pos (by omega)]
      by_cases h12 : gs[i].1 = 12
      · rw [if_pos h12]; simp [asG, h12]
      · rw [if_neg h12]; simp [asG, h12]
    · simp [graph_with_l3_T]
  simp only [graph_with, graph_with_T, run_call, clone_is N gs h, Option.bind_some, l3, run_ret]

theorem as_is (N : Nat) (gs : List Gate) (os : List GOut) (k : Int) (h : gs.length ≤ 9000) (ho : os.length ≤ 9000) (hN : 9000 < N) : bautaref20_as N gs os k = some (asK k gs) := by
  have l3 : bautaref20_as_l3 N k (0, gs) = some (asK k gs) := by
    unfold bautaref20_as_l3
    have := loop_up (s := fun v => bautaref20_as_l3_T N k v.1 v.2) (fun i : Nat => ((i : Int), asK k (gs.take i) ++ gs.drop i)) gs.length (asK k gs) (k := 0) (m := N) (by omega) (by omega) (fun i _ hi => ?_) ?_
    · simpa [asK] using this
    · have hli : i = (asK k (gs.take i)).length := by rw [asK_len]; simp; omega
      have hll : (asK k (gs.take i)).length + (gs.length - (i + 1) + 1) = gs.length := by omega
      rw [asK_snoc k gs i hi, drop_cons gs hi]
      simp only [bautaref20_as_l3_T, run_br, run_ret, ltI_eq, decide_eq_true_eq, inRange_iff, toNat_nat, mid_get _ _ _ _ hli, mid_set _ _ _ _ hli, beq_iffI, i64_succ (i := i) (by omega), List.length_append, List.length_cons, List.length_drop, hll]
      rw [if_pos (by omega), if_pos (by omega)]
      by_cases h12 : gs[i].1 = 12
      · rw [if_pos h12, if_pos (by omega)]; simp [asG, h12]
      · rw [if_neg h12]; simp [asG, h12]
    · simp [bautaref20_as_l3_T, asK]
  simp only [bautaref20_as, bautaref20_as_T, run_call, own_is N gs os h ho, Option.bind_some, l3, run_ret]

theorem as_wds {gs : List Gate} (h : Wds gs) (k : Int) : Wds (asK k gs) := by
  intro i hi
  rw [asK_len] at hi
  have := h i hi
  rw [getD_nat _ _ _ hi] at this
  rw [asK_get k gs i hi]
  unfold asG
  split <;> exact this

/-- What is a graph. -/
def GCan (gs : List Gate) (s p : Int) (os : List GOut) : Prop := (CanOK (asK 5 gs) s p os ∧ FewK (asK 5 gs)) ∧ ∀ i, i < gs.length → (gs.getD i g0).1 = 12 → sec gs (gs.getD i g0).2.1 = true
instance (gs : List Gate) (s p : Int) (os : List GOut) : Decidable (GCan gs s p os) := by unfold GCan; infer_instance

theorem as_sec (k : Int) (gs : List Gate) (x : Int) : sec (asK k gs) x = sec gs x := by
  simp only [sec]
  rcases Nat.lt_or_ge x.toNat gs.length with h | h
  · rw [asK_get k gs _ h, getD_nat _ _ _ h]
    unfold asG
    split <;> rfl
  · simp only [List.getD_eq_getElem?_getD]
    rw [List.getElem?_eq_none (by rw [asK_len]; exact h), List.getElem?_eq_none h]

/-- Of a gate of a graph. -/
theorem gate_of {gs : List Gate} {s p : Int} {os : List GOut} (h : CanOK (asK 5 gs) s p os) {i : Nat} (hi : i < gs.length) : GateOK (asK 5 gs) s p i (asG 5 gs[i]) := by
  have := h.2.2.2.1 i (by rw [asK_len]; exact hi)
  rwa [asK_get 5 gs i hi] at this

theorem ref_refs {gs : List Gate} {s p : Int} {os : List GOut} (h : CanOK (asK 5 gs) s p os) {i : Nat} (hi : i < gs.length) (h12 : gs[i].1 = 12) : 0 ≤ gs[i].2.1 ∧ gs[i].2.1 < i := by
  have := (gate_of h hi).2.2.2.1
  simp only [asG, h12, if_true] at this
  exact this (by decide)

theorem real_ref1 (N : Nat) (gs : List Gate) (k a : Int) (h : k = 12 → 0 ≤ a ∧ a < gs.length) : graph_can_1 N k a gs = some (decide (k = 12 ∧ ¬ sec gs a = true)) := by
  simp only [graph_can_1, graph_can_1_T, run_br, run_ret, beq_iffI, inRange_iff, sec, show ((0, (0, (0, (0, false)))) : Gate) = g0 from rfl]
  by_cases h12 : k = 12
  · rw [if_pos h12, if_pos (h h12)]
    by_cases hs : (gs.getD a.toNat g0).2.2.2.2 = true <;> simp only [h12, hs] <;> simp
  · rw [if_neg h12]; simp [h12]

theorem real_index2 (N : Nat) (gs : List Gate) (hl : gs.length ≤ 9000) (hN : gs.length < N) (h : ∀ i, i < gs.length → (gs.getD i g0).1 = 12 → 0 ≤ (gs.getD i g0).2.1 ∧ (gs.getD i g0).2.1 < gs.length) :
    slices_ContainsFunc_2 N gs gs = some (!decide (∀ i, i < gs.length → ((gs.getD i g0).1 = 12 → sec gs (gs.getD i g0).2.1 = true))) := by
  have := loop_find (s := fun v => slices_IndexFunc_2_l2_T N gs gs.length gs v) (fun i : Nat => (i : Int)) (fun i => (gs.getD i g0).1 = 12 → sec gs (gs.getD i g0).2.1 = true) gs.length (fun i => Sum.inl (i : Int)) (Sum.inr ()) hN (fun i hi _ => ?_) (fun _ => ?_)
  · simp only [slices_ContainsFunc_2, slices_ContainsFunc_2_T, slices_IndexFunc_2, slices_IndexFunc_2_T, run_call, run_ret, slices_IndexFunc_2_l2]
    rcases this with ⟨ha, hb⟩ | ⟨i, hi, ha, _, hb⟩
    · erw [hb]
      rw [decide_eq_true ha]
      rfl
    · erw [hb]
      have hne : ¬ ∀ i, i < gs.length → ((gs.getD i g0).1 = 12 → sec gs (gs.getD i g0).2.1 = true) := fun h => ha (h i hi)
      rw [decide_eq_false hne]
      simp only [Option.bind_some, run_inl, run_ret, leI_eq]
      simp
  · have hb := h i hi
    simp only [slices_IndexFunc_2_l2_T, run_br, run_call, run_ret, ltI_eq, decide_eq_true_eq, inRange_iff, toNat_nat, i64_succ (i := i) (by omega), show ((0, (0, (0, (0, false)))) : Gate) = g0 from rfl]
    rw [if_pos (by omega), if_pos (by omega), real_ref1 N gs _ _ hb]
    simp only [Option.bind_some, decide_eq_true_eq]
    generalize (gs.getD i g0).1 = k
    by_cases hk : k = 12 <;> by_cases hs : sec gs (gs.getD i g0).2.1 = true <;> simp [hk, hs]
  · simp [slices_IndexFunc_2_l2_T]

theorem refs_in {gs : List Gate} {s p : Int} {os : List GOut} (h : CanOK (asK 5 gs) s p os) : ∀ i, i < gs.length → (gs.getD i g0).1 = 12 → 0 ≤ (gs.getD i g0).2.1 ∧ (gs.getD i g0).2.1 < gs.length := by
  intro i hi h12
  rw [getD_nat _ _ _ hi] at h12 ⊢
  have := ref_refs h hi h12
  omega

theorem real_gcan (N : Nat) (gs : List Gate) (s p : Int) (os : List GOut) (hw : Wds gs) (hl : gs.length ≤ 8000) (ho : os.length ≤ 8000) (hN : 9000 < N) : graph_can N gs s p os = some (decide (GCan gs s p os)) := by
  simp only [graph_can, graph_can_T, run_call, with_is N gs 5 hw (by omega) hN, Option.bind_some, real_plain N (asK 5 gs) s p os (as_wds hw 5) (by rw [asK_len]; omega) ho (by omega) (by rw [asK_len]; omega), run_br, run_ret]
  by_cases h : CanOK (asK 5 gs) s p os ∧ FewK (asK 5 gs)
  · rw [real_index2 N gs (by omega) (by omega) (refs_in h.1)]
    simp [h, GCan]
  · have : ¬ GCan gs s p os := fun hh => h hh.1
    simp [h, this]

theorem real_GCan (N : Nat) (gs : List Gate) (s p : Int) (os : List GOut) (hw : Wds gs) (hl : gs.length ≤ 8000) (ho : os.length ≤ 8000) (hN : 9000 < N) : graph_Can N gs s p os = some (decide (GCan gs s p os)) := by
  simp only [graph_Can, graph_Can_T, run_call, real_gcan N gs s p os hw hl ho hN, Option.bind_some, run_ret]

theorem ref_gcan (N : Nat) (gs : List Gate) (s p : Int) (os : List GOut) (hw : Wds gs) (hl : gs.length ≤ 8000) (ho : os.length ≤ 8000) (hN : 9000 < N) : bautaref20_Can N gs s p os = some (decide (GCan gs s p os)) := by
  simp only [bautaref20_Can, bautaref20_Can_T, run_call, as_is N gs os 5 (by omega) (by omega) hN, Option.bind_some, ref_plain N (asK 5 gs) s p os (as_wds hw 5) (by rw [asK_len]; omega) ho (by omega) (by rw [asK_len]; omega), run_br, run_ret]
  by_cases h : CanOK (asK 5 gs) s p os ∧ FewK (asK 5 gs)
  · have l4 : bautaref20_Can_l4 N gs 0 = some (if ∀ i, i < gs.length → ((gs.getD i g0).1 = 12 → sec gs (gs.getD i g0).2.1 = true) then .inr () else .inl ()) := by
      unfold bautaref20_Can_l4
      refine loop_all (m := N) (fun i => (gs.getD i g0).1 = 12 → sec gs (gs.getD i g0).2.1 = true) gs.length (Sum.inl ()) (Sum.inr ()) (by omega) (fun i hi => ?_) ?_
      · have hb := refs_in h.1 i hi
        simp only [bautaref20_Can_l4_T, run_br, run_ret, ltI_eq, decide_eq_true_eq, inRange_iff, toNat_nat, beq_iffI, i64_succ (i := i) (by omega), show ((0, (0, (0, (0, false)))) : Gate) = g0 from rfl]
        rw [if_pos (by omega), if_pos (by omega)]
        by_cases h12 : (gs.getD i g0).1 = 12
        · rw [if_pos h12, if_pos (by omega), if_pos (hb h12)]
          simp only [h12, sec]
          cases (gs.getD (gs.getD i g0).2.1.toNat g0).2.2.2.2 <;> simp
        · rw [if_neg h12, if_pos (fun h => absurd h h12)]
      · simp [bautaref20_Can_l4_T]
    by_cases h2 : ∀ i, i < gs.length → ((gs.getD i g0).1 = 12 → sec gs (gs.getD i g0).2.1 = true)
    · have : GCan gs s p os := ⟨h, h2⟩
      rw [decide_eq_true h, l4, if_pos h2, decide_eq_true this]
      rfl
    · have : ¬ GCan gs s p os := fun hh => h2 hh.2
      rw [decide_eq_true h, l4, if_neg h2, decide_eq_false this]
      rfl
  · have : ¬ GCan gs s p os := fun hh => h hh.1
    simp [h, this]
end Go.Proofs.YtgdbnamlnemfmaaV
