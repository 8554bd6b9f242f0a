/- What the laws of layer 16 share: copies, what is the same, few gates, the living example. -/
import Derived.Test.YtoahoagfkpfhnaaPLower
namespace Go.Proofs.YtoahoagfkpfhnaaV
set_option linter.unusedVariables false
set_option linter.unusedSimpArgs false

theorem few_is (N : Nat) (gs : List Gate) (os : List GOut) : bautalaw16_few N gs os = some (decide (gs.length ≤ 900 ∧ os.length ≤ 300)) := by
  simp only [bautalaw16_few, bautalaw16_few_T, run_br, run_ret, leI_eq, decide_eq_true_eq]
  by_cases h : gs.length ≤ 900
  · rw [if_pos (by omega)]
    congr 1
    rw [decide_eq_decide]
    omega
  · rw [if_neg (by omega)]
    simp [h]

theorem own_is (N : Nat) (gs : List Gate) (os : List GOut) (h1 : gs.length ≤ 9000) (h2 : os.length ≤ 9000) : bautaref15_Own N gs os = some () := by
  simp only [bautaref15_Own, bautaref15_Own_T, run_br, run_ret, ltI_eq, decide_eq_true_eq]
  rw [if_pos (by omega), if_pos (by omega)]

theorem same_refl (N : Nat) (gs : List Gate) (s p : Int) (os : List GOut) (h1 : gs.length ≤ 9000000) (h2 : os.length ≤ 9000000) (hN : gs.length < N) (hN' : os.length < N) : bautaref15_Same N gs s p os gs s p os = some true := by
  have l4 : bautaref15_Same_l4 N gs gs 0 = some (.inr ()) := by
    unfold bautaref15_Same_l4
    refine loop_up (s := fun v => bautaref15_Same_l4_T N gs gs v) (fun i : Nat => (i : Int)) gs.length _ (k := 0) (m := N) (by omega) (by omega) (fun i _ hi => ?_) ?_
    · simp [bautaref15_Same_l4_T, i64_succ (i := i) (by omega), inRange_iff, hi]
    · simp [bautaref15_Same_l4_T]
  have l9 : bautaref15_Same_l9 N os os 0 = some (.inr ()) := by
    unfold bautaref15_Same_l9
    refine loop_up (s := fun v => bautaref15_Same_l9_T N os os v) (fun i : Nat => (i : Int)) os.length _ (k := 0) (m := N) (by omega) (by omega) (fun i _ hi => ?_) ?_
    · simp [bautaref15_Same_l9_T, i64_succ (i := i) (by omega), inRange_iff, hi]
    · simp [bautaref15_Same_l9_T]
  simp [bautaref15_Same, bautaref15_Same_T, bautaref15_Same_j3, bautaref15_Same_j3_T, l4, l9]

/-! ### Numbers stay words -/
theorem Wds_iff (gs : List Gate) : Wds gs ↔ ∀ g ∈ gs, Wd g := by
  constructor
  · intro h g hg
    obtain ⟨i, hi, rfl⟩ := List.getElem_of_mem hg
    have := h i hi
    rwa [getD_nat _ _ _ hi] at this
  · intro h i hi
    rw [getD_nat _ _ _ hi]
    exact h _ (List.getElem_mem hi)

theorem app_wds {gs : List Gate} (h : Wds gs) {n : Int} (hn : 0 ≤ n ∧ n ≤ 4294967295) (k a b : Int) : Wds (app gs k a b n).2 := by
  rw [Wds_iff] at h ⊢
  intro g hg
  simp only [app, List.mem_append, List.mem_singleton] at hg
  rcases hg with hg | rfl
  · exact h g hg
  · exact hn

theorem sstep_wds {gs : List Gate} (h : Wds gs) (k g q : Int) (hk : 0 ≤ k ∧ k ≤ 16) : Wds (sstep k g q gs).2.2 := by
  unfold sstep
  by_cases h16 : k < 16
  · simp only [h16, if_true]
    exact app_wds (app_wds (app_wds (app_wds (app_wds h (by omega) _ _ _) (by omega) _ _ _) (by omega) _ _ _) (by omega) _ _ _) (by omega) _ _ _
  · simp only [h16, if_false]
    exact app_wds (app_wds (app_wds h (by omega) _ _ _) (by omega) _ _ _) (by omega) _ _ _

theorem sum_wds {gs : List Gate} (h : Wds gs) (a b : Int) : Wds (sumS a b gs).2 :=
  app_wds (app_wds (sumL_ind (P := fun gs _ _ => Wds gs) (fun k gs g q hk h => sstep_wds h k g q hk) (app_wds (app_wds h (by omega) _ _ _) (by omega) _ _ _)) (by omega) _ _ _) (by omega) _ _ _

theorem gateS_wds {gs : List Gate} (h : Wds gs) (k : Int) {n : Int} (hn : 0 ≤ n ∧ n ≤ 4294967295) (a b : Int) : Wds (gateS k n a b gs).2 := by
  unfold gateS
  split
  · exact app_wds (app_wds (app_wds (app_wds h (by omega) _ _ _) (by omega) _ _ _) (by omega) _ _ _) (by omega) _ _ _
  split
  · exact sum_wds h a b
  split
  · exact app_wds (sum_wds (app_wds h (by omega) _ _ _) _ _) (by omega) _ _ _
  · exact app_wds h hn _ _ _

theorem lall_wds (gs : List Gate) (h : Wds gs) : Wds (lall gs).2 := by
  have : ∀ i, i ≤ gs.length → Wds (lall (gs.take i)).2 := by
    intro i
    induction i with
    | zero => intro _ i hi; simp [lall] at hi
    | succ i ih =>
      intro hi
      rw [lall_take gs i (by omega)]
      have hw := h i (by omega)
      rw [getD_nat _ _ _ (by omega : i < gs.length)] at hw
      exact gateS_wds (ih (by omega)) _ hw _ _
  have h2 := this gs.length (Nat.le_refl _)
  rwa [List.take_length] at h2

theorem wds_of {gs : List Gate} (h : WF (.list (.prod (.int .i64) (.prod (.int .i64) (.prod (.int .i64) (.prod (.int .u32) .bool))))) gs) : Wds gs := by
  rw [Wds_iff]
  intro g hg
  have := (h.2 g hg).2.2.2.1
  simp only [WF, Lit.wf, Bool.and_eq_true, decide_eq_true_eq] at this
  exact this

/-! ### What circuits come to: bounds -/
theorem lowS_ok {gs : List Gate} {s p : Int} {os : List GOut} (hc : CanOK gs s p os) (hb : (lall gs).2.length ≤ 8000) : lowS gs s p os = (s, p, 0, (lall gs).2, lout (lall gs).1 os) := by
  rw [lowS, if_pos hc, if_neg (by omega)]
theorem lowS_big {gs : List Gate} {s p : Int} {os : List GOut} (hc : CanOK gs s p os) (hb : ¬ (lall gs).2.length ≤ 8000) : lowS gs s p os = (0, 0, 150, [], []) := by
  rw [lowS, if_pos hc, if_pos (by omega)]
theorem lowS_not {gs : List Gate} {s p : Int} {os : List GOut} (hc : ¬ CanOK gs s p os) : lowS gs s p os = (0, 0, 1, [], []) := by
  rw [lowS, if_neg hc]

theorem lowS_bounds (gs : List Gate) (s p : Int) (os : List GOut) (hw : Wds gs) : Wds (lowS gs s p os).2.2.2.1 ∧ (lowS gs s p os).2.2.2.1.length ≤ 8000 ∧ (lowS gs s p os).2.2.2.2.length ≤ os.length := by
  have hn : Wds [] := fun i hi => by simp at hi
  by_cases hc : CanOK gs s p os
  · by_cases hb : (lall gs).2.length ≤ 8000
    · rw [lowS_ok hc hb]
      exact ⟨lall_wds gs hw, hb, by simp [lout]⟩
    · rw [lowS_big hc hb]
      exact ⟨hn, by simp, by simp⟩
  · rw [lowS_not hc]
    exact ⟨hn, by simp, by simp⟩

/-! ### The living example -/
def liveG : List Gate := [(1, (0, (0, (0, true)))), (10, (0, (0, (0, true))))]
def liveO : List GOut := [((⟨#[111]⟩ : ByteArray), 1)]

theorem live_can : CanOK liveG 1 0 liveO := by decide +kernel
theorem live_len : (lall liveG).2.length = 28 := by decide +kernel
theorem live_plain : CanOK (lall liveG).2 1 0 (lout (lall liveG).1 liveO) ∧ FewK (lall liveG).2 := by decide +kernel
theorem live_ands : nands (lall liveG).2 = 10 := by decide +kernel
theorem live_wds : Wds liveG := by
  rw [Wds_iff]
  intro g hg
  simp only [liveG, List.mem_cons, List.not_mem_nil, or_false] at hg
  rcases hg with rfl | rfl <;> exact ⟨by decide, by decide⟩

theorem lives_holds (N : Nat) (hN : 8000 < N) : bautalaw16_lives N = some true := by
  have hl := live_len
  have h1 : lower_Circuit N liveG 1 0 liveO = some (1, 0, 0, (lall liveG).2, lout (lall liveG).1 liveO) := by
    rw [real_circuit N _ _ _ _ live_wds (by decide) (by decide) hN, lowS_ok live_can (by omega)]
  have h2 := real_plain N (lall liveG).2 1 0 (lout (lall liveG).1 liveO) (lall_wds _ live_wds) (by omega) (by simp [lout, liveO]) hN (by omega)
  have h3 := real_ands N (lall liveG).2 1 0 (lout (lall liveG).1 liveO) (lall_wds _ live_wds) (by omega) (by simp [lout, liveO]) hN (by omega)
  rw [decide_eq_true live_plain] at h2
  rw [if_pos live_plain.1, live_ands] at h3
  simp only [bautalaw16_lives, bautalaw16_lives_T, run_call, run_br, run_ret]
  erw [h1]
  simp only [Option.bind_some, h2, h3, hl]
  simp
end Go.Proofs.YtoahoagfkpfhnaaV
