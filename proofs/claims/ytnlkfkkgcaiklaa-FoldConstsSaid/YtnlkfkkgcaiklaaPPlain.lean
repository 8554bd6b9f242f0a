/- Circuits of a few kinds; copies; what is the same. -/
import Derived.Test.YtnlkfkkgcaiklaaPWords
namespace Go.Proofs.YtnlkfkkgcaiklaaV
set_option linter.unusedVariables false
set_option linter.unusedSimpArgs false
abbrev CircT := List Gate × (Int × (Int × List GOut))
abbrev circTy : Ty := .prod (.list (.prod (.int .i64) (.prod (.int .i64) (.prod (.int .i64) (.prod (.int .u32) .bool))))) (.prod (.int .i64) (.prod (.int .i64) (.list (.prod .str (.int .i64)))))
/-! ### What is made of a few kinds; ands -/
def FewK (gs : List Gate) : Prop := ∀ i, i < gs.length → (gs.getD i g0).1 ≤ 8
instance (gs : List Gate) : Decidable (FewK gs) := by unfold FewK; infer_instance

theorem real_index (N : Nat) (gs : List Gate) (hl : gs.length ≤ 9000000) (hN : gs.length < N) :
    slices_ContainsFunc N gs = some (!decide (∀ i, i < gs.length → ¬ ((gs.getD i g0).1 = 9 ∨ (gs.getD i g0).1 = 10 ∨ (gs.getD i g0).1 = 11))) := by
  have h1 : ∀ k, lower_Plain_1 N k = some (decide (k = 9 ∨ k = 10 ∨ k = 11)) := by
    intro k
    simp only [lower_Plain_1, lower_Plain_1_T, run_br, run_ret, beq_iffI]
    by_cases h9 : k = 9 <;> by_cases h10 : k = 10 <;> simp [h9, h10] <;> try rfl
  have := loop_find (s := fun v => slices_IndexFunc_l2_T N gs gs.length v) (fun i : Nat => (i : Int)) (fun i => ¬ ((gs.getD i g0).1 = 9 ∨ (gs.getD i g0).1 = 10 ∨ (gs.getD i g0).1 = 11)) gs.length (fun i => Sum.inl (i : Int)) (Sum.inr ()) hN (fun i hi _ => ?_) (fun _ => ?_)
  · simp only [slices_ContainsFunc, slices_ContainsFunc_T, slices_IndexFunc, slices_IndexFunc_T, run_call, run_ret, slices_IndexFunc_l2]
    rcases this with ⟨ha, hb⟩ | ⟨i, hi, ha, _, hb⟩
    · erw [hb]
      rw [decide_eq_true ha]
      rfl
    · erw [hb]
      have hne : ¬ ∀ i, i < gs.length → ¬ ((gs.getD i g0).1 = 9 ∨ (gs.getD i g0).1 = 10 ∨ (gs.getD i g0).1 = 11) := fun h => ha (h i hi)
      rw [decide_eq_false hne]
      simp only [Option.bind_some, run_inl, run_ret, leI_eq]
      simp
  · simp only [slices_IndexFunc_l2_T, run_br, run_call, run_ret, ltI_eq, decide_eq_true_eq, inRange_iff, toNat_nat, h1, Option.bind_some, i64_succ (i := i) (by omega)]
    rw [if_pos (by omega), if_pos (by omega)]
    generalize (gs.getD i g0).1 = k
    by_cases hk : k = 9 ∨ k = 10 ∨ k = 11 <;> simp [hk]
  · simp [slices_IndexFunc_l2_T]

theorem real_plain (N : Nat) (gs : List Gate) (s p : Int) (os : List GOut) (hw : Wds gs) (hl : gs.length ≤ 9000000) (ho : os.length ≤ 8000) (hN : 8000 < N) (hN' : gs.length < N) :
    lower_Plain N gs s p os = some (decide (CanOK gs s p os ∧ FewK gs)) := by
  simp only [lower_Plain, lower_Plain_T, run_br, run_call, run_ret, real_Can N gs s p os hw (by omega) (by omega) (by omega), Option.bind_some, real_index N gs hl hN', Bool.not_not, decide_eq_true_eq]
  by_cases hc : CanOK gs s p os
  · simp only [hc, if_true, true_and]
    congr 1
    rw [decide_eq_decide]
    exact ⟨fun h i hi => by have := h i hi; have := (hc.2.2.2.1 i hi).1; omega, fun h i hi => by have := h i hi; omega⟩
  · simp [hc]

theorem ref_plain (N : Nat) (gs : List Gate) (s p : Int) (os : List GOut) (hw : Wds gs) (hl : gs.length ≤ 9000000) (ho : os.length ≤ 8000) (hN : 8000 < N) (hN' : gs.length < N) :
    bautaref16_Plain N gs s p os = some (decide (CanOK gs s p os ∧ FewK gs)) := by
  have l1 : bautaref16_Plain_l2 N gs 0 = some (if ∀ i, i < gs.length → (gs.getD i g0).1 ≤ 8 then .inr () else .inl ()) := by
    unfold bautaref16_Plain_l2
    refine loop_all (m := N) (fun i => (gs.getD i g0).1 ≤ 8) gs.length (Sum.inl ()) (Sum.inr ()) hN' (fun i hi => ?_) ?_
    · simp only [bautaref16_Plain_l2_T, run_br, run_ret, ltI_eq, decide_eq_true_eq, inRange_iff, toNat_nat, i64_succ (i := i) (by omega), show ((0, (0, (0, (0, false)))) : Gate) = g0 from rfl]
      rw [if_pos (by omega), if_pos (by omega)]
      by_cases hk : (gs.getD i g0).1 ≤ 8
      · rw [if_neg (by omega), if_pos hk]
      · rw [if_pos (by omega), if_neg hk]
    · simp [bautaref16_Plain_l2_T]
  simp only [bautaref16_Plain, bautaref16_Plain_T, run_call, l1, Option.bind_some]
  by_cases hf : FewK gs
  · rw [if_pos (show ∀ i, i < gs.length → (gs.getD i g0).1 ≤ 8 from hf)]
    simp only [run_inr, run_call, ref_can N gs s p os hw (by omega) (by omega) (by omega), Option.bind_some, run_ret, hf, and_true]
  · rw [if_neg (show ¬ ∀ i, i < gs.length → (gs.getD i g0).1 ≤ 8 from hf)]
    simp [hf]

theorem own_is (N : Nat) (gs : List Gate) (os : List GOut) (h1 : gs.length ≤ 9000) (h2 : os.length ≤ 9000) : bautaref15_Own N gs os = some () := by
  simp only [bautaref15_Own, bautaref15_Own_T, run_br, run_ret, ltI_eq, decide_eq_true_eq]
  rw [if_pos (by omega), if_pos (by omega)]

theorem same_refl (N : Nat) (gs : List Gate) (s p : Int) (os : List GOut) (h1 : gs.length ≤ 9000000) (h2 : os.length ≤ 9000000) (hN : gs.length < N) (hN' : os.length < N) : bautaref15_Same N gs s p os gs s p os = some true := by
  have l4 : bautaref15_Same_l4 N gs gs 0 = some (.inr ()) := by
    unfold bautaref15_Same_l4
    refine loop_up (s := fun v => bautaref15_Same_l4_T N gs gs v) (fun i : Nat => (i : Int)) gs.length _ (k := 0) (m := N) (by omega) (by omega) (fun i _ hi => ?_) ?_
    · simp [bautaref15_Same_l4_T, i64_succ (i := i) (by omega), inRange_iff, hi]
    · simp [bautaref15_Same_l4_T]
  have l9 : bautaref15_Same_l9 N os os 0 = some (.inr ()) := by
    unfold bautaref15_Same_l9
    refine loop_up (s := fun v => bautaref15_Same_l9_T N os os v) (fun i : Nat => (i : Int)) os.length _ (k := 0) (m := N) (by omega) (by omega) (fun i _ hi => ?_) ?_
    · simp [bautaref15_Same_l9_T, i64_succ (i := i) (by omega), inRange_iff, hi]
    · simp [bautaref15_Same_l9_T]
  simp [bautaref15_Same, bautaref15_Same_T, bautaref15_Same_j3, bautaref15_Same_j3_T, l4, l9]

theorem Wds_iff (gs : List Gate) : Wds gs ↔ ∀ g ∈ gs, Wd g := by
  constructor
  · intro h g hg
    obtain ⟨i, hi, rfl⟩ := List.getElem_of_mem hg
    have := h i hi
    rwa [getD_nat _ _ _ hi] at this
  · intro h i hi
    rw [getD_nat _ _ _ hi]
    exact h _ (List.getElem_mem hi)

theorem wds_of {gs : List Gate} (h : WF (.list (.prod (.int .i64) (.prod (.int .i64) (.prod (.int .i64) (.prod (.int .u32) .bool))))) gs) : Wds gs := by
  rw [Wds_iff]
  intro g hg
  have := (h.2 g hg).2.2.2.1
  simp only [WF, Lit.wf, Bool.and_eq_true, decide_eq_true_eq] at this
  exact this

theorem wdL_take {l : List Int} (h : WdL l) (n : Nat) : WdL (l.take n) := fun x hx => h x (List.mem_of_mem_take hx)

theorem wdL_of {l : List Int} (h : WF (.list (.int .u32)) l) : WdL l := by
  intro x hx
  have := h.2 x hx
  simp only [WF, Lit.wf, Bool.and_eq_true, decide_eq_true_eq] at this
  exact this

end Go.Proofs.YtnlkfkkgcaiklaaV
