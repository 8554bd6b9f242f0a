/- The plain law of GraphTells. -/
import Derived.Test.YtgdbnamlnemfmaaPGraphL
namespace Go.Proofs.YtgdbnamlnemfmaaV
set_option linter.unusedVariables false
set_option linter.unusedSimpArgs false

theorem usesS_len (gs : List Gate) (s p : Int) (os : List GOut) : (usesS gs s p os).length ≤ gs.length := by
  unfold usesS
  split
  · exact Nat.le_of_eq (usesA_bo gs os os.length (Nat.le_refl _)).1
  · simp

theorem graphTells_N (N : Nat) (hN : 9000 < N) (c : CircT) (h : WF circTy c) : bautalaw20_GraphTells N c.1 c.2.1 c.2.2.1 c.2.2.2 = some true := by
  obtain ⟨gs, s, p, os⟩ := c
  have hw : Wds gs := wds_of h.1
  simp only [bautalaw20_GraphTells, bautalaw20_GraphTells_T, run_call, few_is, Option.bind_some, lives_holds N hN, run_br, run_ret]
  by_cases hf : gs.length ≤ 150 ∧ os.length ≤ 100
  · have hl : gs.length ≤ 8000 := by omega
    have ho : os.length ≤ 8000 := by omega
    have hlen := usesS_len gs s p os
    have l6 : bautalaw20_GraphTells_l6 N gs s p os (-1) = some (.inr ()) := by
      unfold bautalaw20_GraphTells_l6
      have := loop_up (s := fun v => bautalaw20_GraphTells_l6_T N gs s p os v) (fun i : Nat => (i : Int) - 1) (gs.length + 2) (Sum.inr ()) (k := 0) (m := N) (by omega) (by omega) (fun i _ hi => ?_) ?_
      · exact this
      · obtain ⟨y, h1, h2⟩ := sorts_same N gs s p os hw hl ho hN ((i : Int) - 1)
        have e : (i : Int) - 1 + 1 = ((i + 1 : Nat) : Int) - 1 := by omega
        simp only [bautalaw20_GraphTells_l6_T, run_br, run_call, run_ret, h1, h2, Option.bind_some, leI_eq, decide_eq_true_eq, e, i64_in (x := ((i + 1 : Nat) : Int) - 1) (by omega)]
        rw [if_pos (by omega), if_neg (by simp)]
      · simp only [bautalaw20_GraphTells_l6_T, run_br, run_call, run_ret, leI_eq, decide_eq_true_eq]
        rw [if_neg (by omega)]
    have j5 : bautalaw20_GraphTells_j5 N gs s p os = some true := by
      simp only [bautalaw20_GraphTells_j5, bautalaw20_GraphTells_j5_T, run_call, l6, Option.bind_some, run_inr, real_count N gs s p os hw hl ho hN, ref_count N gs s p os hw hl ho hN, lives_holds N hN, run_br, run_ret]
      simp
    simp only [decide_eq_true hf, own_is N gs os (by omega) (by omega), real_GCan N gs s p os hw hl ho hN, ref_gcan N gs s p os hw hl ho hN, real_uses N gs s p os hw hl ho hN, ref_uses N gs s p os hw hl ho hN, same2_refl N (usesS gs s p os) (by omega) (by omega), j5, Option.bind_some]
    simp
  · simp [hf]

theorem graphTells_law (c : CircT) (h : WF circTy c) : bautalaw20_GraphTells 9001 c.1 c.2.1 c.2.2.1 c.2.2.2 = some true := graphTells_N 9001 (by omega) c h
end Go.Proofs.YtgdbnamlnemfmaaV
