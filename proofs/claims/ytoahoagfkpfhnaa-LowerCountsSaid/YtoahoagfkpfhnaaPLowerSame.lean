/- The plain law of LowerSame. -/
import Derived.Test.YtoahoagfkpfhnaaPLowerAll
namespace Go.Proofs.YtoahoagfkpfhnaaV
set_option linter.unusedVariables false
set_option linter.unusedSimpArgs false

abbrev CircT := List Gate × (Int × (Int × List GOut))
abbrev circTy : Ty := .prod (.list (.prod (.int .i64) (.prod (.int .i64) (.prod (.int .i64) (.prod (.int .u32) .bool))))) (.prod (.int .i64) (.prod (.int .i64) (.list (.prod .str (.int .i64)))))

theorem short_is (N : Nat) (l : List Int) : bautalaw16_short N l = some (l.take 100) := by
  simp only [bautalaw16_short, bautalaw16_short_T, run_br, run_ret, ltI_eq, leI_eq, decide_eq_true_eq, Bool.and_eq_true]
  by_cases h1 : (100 : Int) < l.length
  · rw [if_pos h1, if_pos (by omega), if_pos (by simp only [List.length_take]; omega)]
  · rw [if_neg h1, if_pos (by omega), List.take_of_length_le (by omega)]

theorem wdL_take {l : List Int} (h : WdL l) (n : Nat) : WdL (l.take n) := fun x hx => h x (List.mem_of_mem_take hx)

theorem wdL_of {l : List Int} (h : WF (.list (.int .u32)) l) : WdL l := by
  intro x hx
  have := h.2 x hx
  simp only [WF, Lit.wf, Bool.and_eq_true, decide_eq_true_eq] at this
  exact this

theorem plain_low {gs : List Gate} {s p : Int} {os : List GOut} (hc : CanOK gs s p os) (hb : (lall gs).2.length ≤ 8000) : CanOK (lall gs).2 s p (lout (lall gs).1 os) ∧ FewK (lall gs).2 := by
  have hs := lall_sem (s := s) (p := p) [] [] gs hc.2.2.2.1 gs.length (Nat.le_refl _)
  have hi := lall_in gs s p hc.2.2.2.1 gs.length (Nat.le_refl _)
  rw [List.take_length] at hs hi
  refine ⟨⟨hc.1, hc.2.1, hb, hs.1, fun j hj => ?_⟩, ?_⟩
  · have hj' : j < os.length := by simpa [lout] using hj
    have hb := hc.2.2.2.2 j hj'
    rw [getD_nat _ _ _ hj'] at hb
    rw [getD_nat _ _ _ hj]
    simp only [lout, List.getElem_map]
    exact hi.2.1 _ (by omega)
  · have few : ∀ i, i ≤ gs.length → ∀ g ∈ (lall (gs.take i)).2, g.1 ≤ 8 := by
      intro i
      induction i with
      | zero => intro _ g hg; simp [lall] at hg
      | succ i ih =>
        intro hi g hg
        have hok := hc.2.2.2.1 i (by omega)
        rw [getD_nat _ _ _ (by omega : i < gs.length)] at hok
        have ih := ih (by omega)
        rw [lall_take gs i (by omega)] at hg
        have app8 : ∀ (m : List Gate) (k a b n : Int), (∀ g ∈ m, g.1 ≤ 8) → k ≤ 8 → ∀ g ∈ (app m k a b n).2, g.1 ≤ 8 := by
          intro m k a b n hm hk g hg
          simp only [app, List.mem_append, List.mem_singleton] at hg
          rcases hg with hg | rfl
          · exact hm g hg
          · exact hk
        have st8 : ∀ k (m : List Gate) g q, 0 ≤ k ∧ k ≤ 16 → (∀ g ∈ m, g.1 ≤ 8) → ∀ g' ∈ (sstep k g q m).2.2, g'.1 ≤ 8 := by
          intro k m g q _ hm
          unfold sstep
          by_cases h16 : k < 16
          · simp only [h16, if_true]
            exact app8 _ _ _ _ _ (app8 _ _ _ _ _ (app8 _ _ _ _ _ (app8 _ _ _ _ _ (app8 _ _ _ _ _ hm (by decide)) (by decide)) (by decide)) (by decide)) (by decide)
          · simp only [h16, if_false]
            exact app8 _ _ _ _ _ (app8 _ _ _ _ _ (app8 _ _ _ _ _ hm (by decide)) (by decide)) (by decide)
        have sum8 : ∀ (m : List Gate) a b, (∀ g ∈ m, g.1 ≤ 8) → ∀ g ∈ (sumS a b m).2, g.1 ≤ 8 := by
          intro m a b hm
          exact app8 _ _ _ _ _ (app8 _ _ _ _ _ (sumL_ind (P := fun m _ _ => ∀ g ∈ m, g.1 ≤ 8) st8 (app8 _ _ _ _ _ (app8 _ _ _ _ _ hm (by decide)) (by decide))) (by decide)) (by decide)
        simp only [lstep] at hg
        revert g
        unfold gateS
        split
        · exact app8 _ _ _ _ _ (app8 _ _ _ _ _ (app8 _ _ _ _ _ (app8 _ _ _ _ _ ih (by decide)) (by decide)) (by decide)) (by decide)
        split
        · exact sum8 _ _ _ ih
        split
        · exact app8 _ _ _ _ _ (sum8 _ _ _ (app8 _ _ _ _ _ ih (by decide))) (by decide)
        · exact app8 _ _ _ _ _ ih (by have := hok.1; omega)
    intro i hi
    have := few gs.length (Nat.le_refl _)
    rw [List.take_length] at this
    rw [getD_nat _ _ _ hi]
    exact this _ (List.getElem_mem hi)

theorem outv_low (S P : List Int) {gs : List Gate} {s p : Int} {os : List GOut} (hc : CanOK gs s p os) : outv S P (lall gs).2 (lout (lall gs).1 os) = outv S P gs os := by
  have hs := lall_sem (s := s) (p := p) S P gs hc.2.2.2.1 gs.length (Nat.le_refl _)
  rw [List.take_length] at hs
  simp only [outv, lout, List.map_map]
  apply List.map_congr_left
  intro o ho
  obtain ⟨j, hj, rfl⟩ := List.getElem_of_mem ho
  have hb := hc.2.2.2.2 j hj
  rw [getD_nat _ _ _ hj] at hb
  have := (hs.2.1 os[j].2.toNat (by omega)).2.2
  simp only [Function.comp_apply]
  simp only [Wat, toNat_nat] at this
  rw [this]

theorem lowerSame_N (N : Nat) (hN : 8999 < N) (c : CircT) (h : WF circTy c) (S : List Int) (hS : WF (.list (.int .u32)) S) (P : List Int) (hP : WF (.list (.int .u32)) P) : bautalaw16_LowerSame N c.1 c.2.1 c.2.2.1 c.2.2.2 S P = some true := by
  obtain ⟨gs, s, p, os⟩ := c
  have hw : Wds gs := wds_of h.1
  simp only [bautalaw16_LowerSame, bautalaw16_LowerSame_T, run_call, few_is, Option.bind_some, lives_holds N (by omega), run_br, run_ret]
  by_cases hf : gs.length ≤ 900 ∧ os.length ≤ 300
  · simp only [decide_eq_true hf, own_is N gs os (by omega) (by omega), real_circuit N gs s p os hw (by omega) (by omega) (by omega), ref_can N gs s p os hw (by omega) (by omega) (by omega), Option.bind_some]
    by_cases hc : CanOK gs s p os
    · have hi := lall_in gs s p hc.2.2.2.1 gs.length (Nat.le_refl _)
      rw [List.take_length] at hi
      by_cases hb : (lall gs).2.length ≤ 8000
      · obtain ⟨pl1, pl2⟩ := plain_low hc hb
        have hw2 := lall_wds gs hw
        have hlo : (lout (lall gs).1 os).length = os.length := by simp [lout]
        have hs := lall_sem (s := s) (p := p) [] [] gs hc.2.2.2.1 gs.length (Nat.le_refl _)
        rw [List.take_length] at hs
        have l9 : bautalaw16_LowerSame_l9 N gs os (lall gs).2 (lout (lall gs).1 os) 0 = some (.inr ()) := by
          unfold bautalaw16_LowerSame_l9
          refine loop_up (s := fun v => bautalaw16_LowerSame_l9_T N gs os (lall gs).2 (lout (lall gs).1 os) v) (fun i : Nat => (i : Int)) os.length _ (k := 0) (m := N) (by omega) (by omega) (fun i _ hi' => ?_) ?_
          · have hbo := hc.2.2.2.2 i hi'
            have hg1 : (lout (lall gs).1 os).getD i (ByteArray.empty, 0) = (os[i].1, (lall gs).1.getD os[i].2.toNat 0) := by
              rw [getD_nat _ _ _ (by omega)]; simp only [lout, List.getElem_map]
            rw [getD_nat _ _ _ hi'] at hbo
            obtain ⟨k1, k2, k3⟩ := hs.2.1 os[i].2.toNat (by omega)
            unfold In at k1
            rw [show ((os[i].2.toNat : Nat) : Int) = os[i].2 by omega] at k2
            simp only [sec] at k2
            simp only [bautalaw16_LowerSame_l9_T, run_br, run_ret, ltI_eq, decide_eq_true_eq, inRange_iff, toNat_nat, hg1, getD_nat _ _ _ hi', hlo, i64_succ (i := i) (by omega)]
            rw [if_pos (by omega), if_pos (by omega), if_pos k1, if_pos (by omega), if_pos hbo, if_neg (by simpa using k2), if_pos (by omega), if_pos (by omega), if_neg (by simp)]
          · simp [bautalaw16_LowerSame_l9_T]
        have hS' := wdL_take (wdL_of hS) 100
        have hP' := wdL_take (wdL_of hP) 100
        have ho : (outv (S.take 100) (P.take 100) gs os).length ≤ 300 := by simp [outv]; omega
        have j8 : bautalaw16_LowerSame_j8 N S P gs s p os s p (lall gs).2 (lout (lall gs).1 os) = some true := by
          simp only [bautalaw16_LowerSame_j8, bautalaw16_LowerSame_j8_T, run_call, l9, Option.bind_some, run_inr, short_is N S, short_is N P, outs_is N (lall gs).2 s p (lout (lall gs).1 os) _ _ hS' hP' hw2 (by omega) (by omega), outs_is N gs s p os _ _ hS' hP' hw (by omega) (by omega), if_pos pl1, if_pos hc, outv_low _ _ hc, sameL_refl N _ (by omega : (outv (S.take 100) (P.take 100) gs os).length ≤ 9000000) (by omega), run_br, run_ret, lives_holds N (by omega)]
          simp
        have hpl := real_plain N (lall gs).2 s p (lout (lall gs).1 os) hw2 (by omega) (by omega) (by omega) (by omega)
        rw [decide_eq_true ⟨pl1, pl2⟩] at hpl
        simp only [lowS_ok hc hb, hpl, j8, hlo, Option.bind_some]
        simp
      · have h200 : 200 < gs.length := by
          have := (total_bound gs).2
          rw [hi.2.2] at hb
          omega
        simp only [lowS_big hc hb, decide_eq_true hc]
        simp
        omega
    · simp only [lowS_not hc, decide_eq_false hc]
      simp
  · simp [hf]
theorem lowerSame_law (c : CircT) (h : WF circTy c) (S : List Int) (hS : WF (.list (.int .u32)) S) (P : List Int) (hP : WF (.list (.int .u32)) P) : bautalaw16_LowerSame 9000 c.1 c.2.1 c.2.2.1 c.2.2.2 S P = some true := lowerSame_N 9000 (by omega) c h S hS P hP
end Go.Proofs.YtoahoagfkpfhnaaV
