/- The plain law of GraphWords. -/
import Derived.Test.YtgdbnamlnemfmaaPGraphW
namespace Go.Proofs.YtgdbnamlnemfmaaV
set_option linter.unusedVariables false
set_option linter.unusedSimpArgs false

theorem graphWords_N (N : Nat) (hN : 9000 < N) (c : CircT) (h : WF circTy c) (S : List Int) (hS : WF (.list (.int .u32)) S) (P : List Int) (hP : WF (.list (.int .u32)) P) : bautalaw20_GraphWords N c.1 c.2.1 c.2.2.1 c.2.2.2 S P = some true := by
  obtain ⟨gs, s, p, os⟩ := c
  have hw : Wds gs := wds_of h.1
  have hS' := wdL_take (wdL_of hS) 100
  have hP' := wdL_take (wdL_of hP) 100
  have lS := short_le S
  have lP := short_le P
  simp only [bautalaw20_GraphWords, bautalaw20_GraphWords_T, run_call, few_is, short_is, Option.bind_some, lives_holds N hN, run_br, run_ret]
  by_cases hf : gs.length ≤ 150 ∧ os.length ≤ 100
  · have hlen := gwords_len (S.take 100) (P.take 100) gs s p os
    simp only [decide_eq_true hf, own_is N gs os (by omega) (by omega), real_gwords N gs s p os _ _ hS' hP' (by omega) (by omega) hw (by omega) (by omega) hN, ref_gwords N gs s p os _ _ hS' hP' hw (by omega) (by omega) hN, sameL_refl N (gwords (S.take 100) (P.take 100) gs s p os) (by omega) (by omega), Option.bind_some]
    simp
  · simp [hf]

theorem graphWords_law (c : CircT) (h : WF circTy c) (S : List Int) (hS : WF (.list (.int .u32)) S) (P : List Int) (hP : WF (.list (.int .u32)) P) : bautalaw20_GraphWords 9001 c.1 c.2.1 c.2.2.1 c.2.2.2 S P = some true := graphWords_N 9001 (by omega) c h S hS P hP
end Go.Proofs.YtgdbnamlnemfmaaV
