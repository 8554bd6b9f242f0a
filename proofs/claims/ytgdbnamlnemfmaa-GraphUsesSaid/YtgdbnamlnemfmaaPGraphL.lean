/- The living example of layer 20. -/
import Derived.Test.YtgdbnamlnemfmaaPGraphB
namespace Go.Proofs.YtgdbnamlnemfmaaV
set_option linter.unusedVariables false
set_option linter.unusedSimpArgs false

theorem real_Sort_at (N : Nat) (gs : List Gate) (s p : Int) (os : List GOut) (hw : Wds gs) (hl : gs.length ≤ 8000) (ho : os.length ≤ 8000) (hN : 9000 < N) (hc : GCan gs s p os) (i : Nat) (hi : i < gs.length) : graph_Sort N gs s p os i = some (sortV gs gs[i]) := by
  simp only [graph_Sort, graph_Sort_T, run_br, run_call, run_ret, real_gcan N gs s p os hw hl ho hN, Option.bind_some, ltI_eq, leI_eq, decide_eq_true_eq, hc, real_sort N gs i hi (fun hk => in3 hc.1.1 hi hk)]
  rw [if_neg (by simp), if_neg (by omega), if_neg (by omega)]

def liveG : List Gate := [(1, (0, (0, (0, true)))), (12, (0, (0, (0, true)))), (3, (0, (1, (0, true))))]
def liveO : List GOut := [(ByteArray.empty, 2)]
theorem live_can : GCan liveG 1 0 liveO := by decide +kernel
theorem live_uses : usesS liveG 1 0 liveO = [2, 1, 1] := by decide +kernel
theorem live_sort : sortV liveG (3, (0, (1, (0, true)))) = 2 := by decide +kernel
theorem live_wds : Wds liveG := by
  rw [Wds_iff]
  intro g hg
  simp only [liveG, List.mem_cons, List.not_mem_nil, or_false] at hg
  rcases hg with rfl | rfl | rfl <;> exact ⟨by decide, by decide⟩

theorem lives_holds (N : Nat) (hN : 9000 < N) : bautalaw20_lives N = some true := by
  have h1 := real_GCan N liveG 1 0 liveO live_wds (by decide) (by decide) hN
  have h2 := real_uses N liveG 1 0 liveO live_wds (by decide) (by decide) hN
  have h3 := real_Sort_at N liveG 1 0 liveO live_wds (by decide) (by decide) hN live_can 2 (by decide)
  have h4 := same2_refl N [2, 1, 1] (by decide) (by simp; omega)
  rw [decide_eq_true live_can] at h1
  rw [live_uses] at h2
  have e : liveG[2] = (3, (0, (1, (0, true)))) := rfl
  rw [e, live_sort] at h3
  simp only [bautalaw20_lives, bautalaw20_lives_T, run_call, run_br, run_ret]
  erw [h1]
  simp only [Option.bind_some]
  erw [h2]
  simp only [Option.bind_some, h4]
  erw [h3]
  simp
end Go.Proofs.YtgdbnamlnemfmaaV
