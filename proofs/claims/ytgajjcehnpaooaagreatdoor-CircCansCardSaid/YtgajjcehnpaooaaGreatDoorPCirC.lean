/- The plain laws of chapter 15: CircCans alone. -/
import Derived.Test.YtgajjcehnpaooaaGreatDoorPCirc
namespace Go.Proofs.YtgajjcehnpaooaaGreatDoorV
set_option linter.unusedVariables false
set_option linter.unusedSimpArgs false

abbrev CircT := List Gate × (Int × (Int × List GOut))
abbrev circTy : Ty := .prod (.list (.prod (.int .i64) (.prod (.int .i64) (.prod (.int .i64) (.prod (.int .u32) .bool))))) (.prod (.int .i64) (.prod (.int .i64) (.list (.prod .str (.int .i64)))))

theorem cir_lives (m : Nat) : bautalaw15_lives (m + 200) = some true := by kernel_rfl
theorem lives_ok (N : Nat) (h : 200 ≤ N) : bautalaw15_lives N = some true := by
  obtain ⟨m, rfl⟩ : ∃ m, N = m + 200 := ⟨N - 200, by omega⟩
  exact cir_lives m




theorem wds_of {gs : List Gate} (h : WF (.list (.prod (.int .i64) (.prod (.int .i64) (.prod (.int .i64) (.prod (.int .u32) .bool))))) gs) : Wds gs := by
  intro i hi
  rw [getD_nat _ _ _ hi]
  have := (h.2 _ (List.getElem_mem hi)).2.2.2.1
  simp only [WF, Lit.wf, Bool.and_eq_true, decide_eq_true_eq] at this
  exact this

theorem own_is (N : Nat) (gs : List Gate) (os : List GOut) (h1 : gs.length * 32 < 140737488355328) (h2 : os.length * 24 < 140737488355328) : bautaref15_Own N gs os = some () := by
  simp only [bautaref15_Own, bautaref15_Own_T, run_br, run_ret, ltI_eq, decide_eq_true_eq]
  rw [if_pos (by omega), if_pos (by omega)]

theorem circCans_N (N : Nat) (hN : 9000 < N) (gs : List Gate) (s p : Int) (os : List GOut) (hw : Wds gs) (h1 : gs.length * 32 < 140737488355328) (h2 : os.length * 24 < 140737488355328) (h3 : os.length < N) : bautalaw15_CircCans N gs s p os = some true := by
  simp only [bautalaw15_CircCans, bautalaw15_CircCans_T, run_call, run_br, run_ret, own_is N gs os h1 h2, real_Can N gs s p os hw (by omega) h3 (by omega), ref_can N gs s p os hw (by omega) h3 (by omega), lives_ok N (by omega), Option.bind_some]
  simp

theorem circCans_law (c : CircT) (h : WF circTy c) (z0 : c.1.length * 32 < 140737488355328) (z1 : c.2.2.2.length * 24 < 140737488355328) : bautalaw15_CircCans 6000000000000 c.1 c.2.1 c.2.2.1 c.2.2.2 = some true :=
  circCans_N 6000000000000 (by omega) _ _ _ _ (wds_of h.1) z0 z1 (by omega)
end Go.Proofs.YtgajjcehnpaooaaGreatDoorV
