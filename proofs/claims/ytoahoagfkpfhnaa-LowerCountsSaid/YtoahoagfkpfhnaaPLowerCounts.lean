/- The plain law of LowerCounts. -/
import Derived.Test.YtoahoagfkpfhnaaPLowerSame
namespace Go.Proofs.YtoahoagfkpfhnaaV
set_option linter.unusedVariables false
set_option linter.unusedSimpArgs false

theorem j9_cnt (N : Nat) (a b k : Int) (ta tb both : Bool) (hk : 0 ≤ k ∧ k ≤ 11) (ha : 0 ≤ a ∧ a ≤ 1000000) (hb : 0 ≤ b ∧ b ≤ 1000000) (hboth : both = (decide (takes k = 2) && (ta && tb))) :
    bautalaw16_LowerCounts_j9 N a b both k (secK k ta tb) = some (a + cnt k, b + dn k ta tb) := by
  simp only [bautalaw16_LowerCounts_j9, bautalaw16_LowerCounts_j9_T, bautalaw16_LowerCounts_j12, bautalaw16_LowerCounts_j12_T, bautalaw16_LowerCounts_j14, bautalaw16_LowerCounts_j14_T, bautalaw16_LowerCounts_j16, bautalaw16_LowerCounts_j16_T, bautalaw16_LowerCounts_j18, bautalaw16_LowerCounts_j18_T, run_br, run_call, run_ret, ref_takes, Option.bind_some, beq_iffI]
  subst hboth
  rcases kinds hk with rfl | rfl | rfl | rfl | rfl | rfl | rfl | rfl | rfl | rfl | rfl | rfl <;> cases ta <;> cases tb <;> simp (disch := omega) [takes, secK, dn, cnt, i64_in] <;> omega

theorem l5_cnt (N : Nat) (gs : List Gate) (s p : Int) (h : AllOK gs s p) (hl : gs.length ≤ 900) (hN : 8000 < N) : bautalaw16_LowerCounts_l5 N gs (0, 0, 0) = some ((total gs : Int), (dnAll gs gs.length : Int)) := by
  unfold bautalaw16_LowerCounts_l5
  have hd : ∀ i, i ≤ gs.length → dnAll gs i ≤ 10 * i := by
    intro i
    induction i with
    | zero => intro _; simp [dnAll]
    | succ i ih =>
      intro hi
      have ih := ih (by omega)
      have : dnG gs gs[i] ≤ 10 := by
        unfold dnG dn
        repeat' split
        all_goals omega
      simp only [dnAll, take_snoc gs (by omega : i < gs.length), List.map_append, List.sum_append, List.map_cons, List.map_nil, List.sum_cons, List.sum_nil, Nat.add_zero] at ih ⊢
      omega
  have := loop_up (s := fun v => bautalaw16_LowerCounts_l5_T N gs v.1 v.2.1 v.2.2) (fun i : Nat => ((total (gs.take i) : Int), (dnAll gs i : Int), (i : Int))) gs.length ((total gs : Int), (dnAll gs gs.length : Int)) (k := 0) (m := N) (by omega) (by omega) (fun i _ hlt => ?_) ?_
  · simpa [total, dnAll] using this
  · have hg : gs.getD i g0 = gs[i] := getD_nat _ _ _ hlt
    have hok := h i hlt
    rw [hg] at hok
    have tb := (total_bound (gs.take i)).2
    have tl : (gs.take i).length = i := by simp; omega
    have hdi := hd i (by omega)
    have es : gs[i].2.2.2.2 = secK gs[i].1 (sec gs gs[i].2.1) (sec gs gs[i].2.2.1) := hok.2.2.2.2.2.2
    have j9 := fun (both : Bool) (hb : both = (decide (takes gs[i].1 = 2) && (sec gs gs[i].2.1 && sec gs gs[i].2.2.1))) => j9_cnt N (total (gs.take i)) (dnAll gs i) gs[i].1 (sec gs gs[i].2.1) (sec gs gs[i].2.2.1) both hok.1 (by omega) (by omega) hb
    rw [← es] at j9
    have t1 : ((total (gs.take (i + 1)) : Nat) : Int) = (total (gs.take i) : Int) + cnt gs[i].1 := by
      rw [take_snoc _ hlt]
      simp only [total, List.map_append, List.sum_append, List.map_cons, List.map_nil, List.sum_cons, List.sum_nil]
      omega
    have t2 : ((dnAll gs (i + 1) : Nat) : Int) = (dnAll gs i : Int) + dn gs[i].1 (sec gs gs[i].2.1) (sec gs gs[i].2.2.1) := by
      simp only [dnAll, take_snoc _ hlt, List.map_append, List.sum_append, List.map_cons, List.map_nil, List.sum_cons, List.sum_nil, dnG]
      omega
    simp only [bautalaw16_LowerCounts_l5_T, run_br, run_call, run_ret, ltI_eq, decide_eq_true_eq, inRange_iff, toNat_nat, hg, ref_takes, Option.bind_some, beq_iffI, i64_succ (i := i) (by omega), t1, t2]
    rw [if_pos (by omega), if_pos (by omega)]
    by_cases h2 : takes gs[i].1 = 2
    · have b1 := hok.2.2.2.1 (by omega)
      have b2 := hok.2.2.2.2.1 (by omega)
      rw [if_pos h2, if_pos (by omega)]
      by_cases hs : sec gs gs[i].2.1 = true
      · rw [if_pos (by simpa [sec] using hs), if_pos (by omega)]
        have hsb : (gs.getD gs[i].2.2.1.toNat (0, 0, 0, 0, false)).2.2.2.2 = sec gs gs[i].2.2.1 := rfl
        rw [hsb, j9 _ (by simp [h2, hs])]
        rfl
      · rw [if_neg (by simpa [sec] using hs), j9 _ (by simp [hs])]
        rfl
    · rw [if_neg h2, j9 _ (by simp [h2])]
      rfl
  · simp [bautalaw16_LowerCounts_l5_T, total, dnAll]

theorem lowerCounts_N (N : Nat) (hN : 8999 < N) (c : CircT) (h : WF circTy c) : bautalaw16_LowerCounts N c.1 c.2.1 c.2.2.1 c.2.2.2 = some true := by
  obtain ⟨gs, s, p, os⟩ := c
  have hw : Wds gs := wds_of h.1
  simp only [bautalaw16_LowerCounts, bautalaw16_LowerCounts_T, run_call, few_is, Option.bind_some, lives_holds N (by omega), run_br, run_ret]
  by_cases hf : gs.length ≤ 900 ∧ os.length ≤ 300
  · simp only [decide_eq_true hf, ref_can N gs s p os hw (by omega) (by omega) (by omega), Option.bind_some]
    by_cases hc : CanOK gs s p os
    · have hi := lall_in gs s p hc.2.2.2.1 gs.length (Nat.le_refl _)
      have hs := lall_sem (s := s) (p := p) [] [] gs hc.2.2.2.1 gs.length (Nat.le_refl _)
      rw [List.take_length] at hi hs
      have j3 : bautalaw16_LowerCounts_j3 N gs s p os = some true := by
        simp only [bautalaw16_LowerCounts_j3, bautalaw16_LowerCounts_j3_T, run_call, l5_cnt N gs s p hc.2.2.2.1 hf.1 (by omega), own_is N gs os (by omega) (by omega), real_circuit N gs s p os hw (by omega) (by omega) (by omega), Option.bind_some, lives_holds N (by omega)]
        by_cases hb : (lall gs).2.length ≤ 8000
        · have ha := real_ands N (lall gs).2 s p (lout (lall gs).1 os) (lall_wds gs hw) (by omega) (by simp [lout]; omega) (by omega) (by omega)
          rw [if_pos (plain_low hc hb).1, hs.2.2] at ha
          have hnb : ¬ (8000 : Int) < total gs := by omega
          simp only [lowS_ok hc hb, ha, run_br, run_call, run_ret, ltI_eq, decide_eq_true_eq, if_neg hnb, Option.bind_some, hi.2.2]
          simp
        · have hnb : (8000 : Int) < total gs := by omega
          simp only [lowS_big hc hb, run_br, run_call, run_ret, ltI_eq, decide_eq_true_eq, if_pos hnb, Option.bind_some]
          simp
      simp only [decide_eq_true hc, j3]
      simp
    · simp [hc]
  · simp [hf]

theorem lowerCounts_law (c : CircT) (h : WF circTy c) : bautalaw16_LowerCounts 9000 c.1 c.2.1 c.2.2.1 c.2.2.2 = some true := lowerCounts_N 9000 (by omega) c h
end Go.Proofs.YtoahoagfkpfhnaaV
