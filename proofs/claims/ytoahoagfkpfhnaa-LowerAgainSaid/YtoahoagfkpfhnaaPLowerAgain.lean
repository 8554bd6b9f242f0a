/- The plain law of LowerAgain. -/
import Derived.Test.YtoahoagfkpfhnaaPLowerX
namespace Go.Proofs.YtoahoagfkpfhnaaV
set_option linter.unusedVariables false
set_option linter.unusedSimpArgs false

abbrev CircT := List Gate × (Int × (Int × List GOut))
abbrev circTy : Ty := .prod (.list (.prod (.int .i64) (.prod (.int .i64) (.prod (.int .i64) (.prod (.int .u32) .bool))))) (.prod (.int .i64) (.prod (.int .i64) (.list (.prod .str (.int .i64)))))

/-- Gates of a few kinds stay where they are. -/
theorem lall_same (gs : List Gate) (s p : Int) (h : AllOK gs s p) (hf : FewK gs) : ∀ i, i ≤ gs.length → lall (gs.take i) = ((List.range i).map fun (j : Nat) => (j : Int), gs.take i)
  | 0, _ => by simp [lall]
  | i + 1, hi => by
    have ih := lall_same gs s p h hf i (by omega)
    have hg : gs.getD i g0 = gs[i] := getD_nat _ _ _ (by omega)
    have hok := h i (by omega)
    have hk := hf i (by omega)
    rw [hg] at hok hk
    have hget : ∀ x : Int, 0 ≤ x ∧ x < i → ((List.range i).map fun (j : Nat) => (j : Int)).getD x.toNat 0 = x := by
      intro x hx
      rw [getD_nat _ _ _ (by simp; omega)]
      simp
      omega
    have hsec : ∀ x : Int, 0 ≤ x ∧ x < i → sec (gs.take i) x = sec gs x := by
      intro x hx
      simp only [sec]
      rw [getD_take _ _ (by omega)]
    have hle : (gs.take i).length = i := by simp; omega
    rw [lall_take gs i (by omega), ih, take_snoc gs (by omega : i < gs.length)]
    have ea : (if 1 ≤ takes gs[i].1 then ((List.range i).map fun (j : Nat) => (j : Int)).getD gs[i].2.1.toNat 0 else 0) = gs[i].2.1 := by
      split
      · rename_i h1; exact hget _ (hok.2.2.2.1 h1)
      · rename_i h1; exact (hok.2.1 (by omega)).symm
    have eb : (if 2 ≤ takes gs[i].1 then ((List.range i).map fun (j : Nat) => (j : Int)).getD gs[i].2.2.1.toNat 0 else 0) = gs[i].2.2.1 := by
      split
      · rename_i h1; exact hget _ (hok.2.2.2.2.1 h1)
      · rename_i h1; exact (hok.2.2.1 (by omega)).symm
    have es : secOf (gs.take i) gs[i].1 gs[i].2.1 gs[i].2.2.1 = gs[i].2.2.2.2 := by
      rw [hok.2.2.2.2.2.2]
      simp only [secOf]
      rcases takes_cases gs[i].1 with ht | ht | ht
      · simp [ht]
      · simp [ht, hsec _ (hok.2.2.2.1 (by omega))]
      · simp [ht, hsec _ (hok.2.2.2.1 (by omega)), hsec _ (hok.2.2.2.2.1 (by omega))]
    simp only [lstep, ea, eb, gateS]
    rw [if_neg (by omega), if_neg (by omega), if_neg (by omega)]
    simp only [app, es, hle, List.range_succ, List.map_append, List.map_cons, List.map_nil]

theorem lowerAgain_law (c : CircT) (h : WF circTy c) : bautalaw16_LowerAgain 9000 c.1 c.2.1 c.2.2.1 c.2.2.2 = some true := by
  obtain ⟨gs, s, p, os⟩ := c
  have hw : Wds gs := wds_of h.1
  simp only [bautalaw16_LowerAgain, bautalaw16_LowerAgain_T, run_call, few_is, Option.bind_some, lives_holds 9000 (by omega), run_br, run_ret]
  by_cases hf : gs.length ≤ 900 ∧ os.length ≤ 300
  · simp only [decide_eq_true hf, ref_plain 9000 gs s p os hw (by omega) (by omega) (by omega) (by omega), Option.bind_some]
    by_cases hp : CanOK gs s p os ∧ FewK gs
    · obtain ⟨hc, hk⟩ := hp
      have hs := lall_same gs s p hc.2.2.2.1 hk gs.length (Nat.le_refl _)
      rw [List.take_length] at hs
      have hlow : lowS gs s p os = (s, p, 0, gs, os) := by
        rw [lowS_ok hc (by rw [hs]; exact hc.2.2.1), hs]
        have : lout ((List.range gs.length).map fun (j : Nat) => (j : Int)) os = os := by
          apply List.ext_getElem (by simp [lout])
          intro j h1 h2
          have hj : j < os.length := h2
          have := hc.2.2.2.2 j hj
          rw [getD_nat _ _ _ hj] at this
          simp only [lout, List.getElem_map]
          rw [getD_nat _ _ _ (by simp; omega)]
          simp
          ext <;> simp
          omega
        simp only [this]
      simp only [hc, hk, and_self, decide_true, bautalaw16_LowerAgain_j3, bautalaw16_LowerAgain_j3_T, run_call, own_is 9000 gs os (by omega) (by omega), real_circuit 9000 gs s p os hw (by omega) (by omega) (by omega), hlow, Option.bind_some, same_refl 9000 gs s p os (by omega) (by omega) (by omega) (by omega), lives_holds 9000 (by omega), run_br, run_ret]
      simp
    · simp [hp]
  · simp [hf]
end Go.Proofs.YtoahoagfkpfhnaaV
