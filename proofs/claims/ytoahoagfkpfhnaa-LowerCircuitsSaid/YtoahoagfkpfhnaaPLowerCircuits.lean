/- The plain law of LowerCircuits. -/
import Derived.Test.YtoahoagfkpfhnaaPLowerX
namespace Go.Proofs.YtoahoagfkpfhnaaV
set_option linter.unusedVariables false
set_option linter.unusedSimpArgs false

abbrev CircT := List Gate × (Int × (Int × List GOut))
abbrev circTy : Ty := .prod (.list (.prod (.int .i64) (.prod (.int .i64) (.prod (.int .i64) (.prod (.int .u32) .bool))))) (.prod (.int .i64) (.prod (.int .i64) (.list (.prod .str (.int .i64)))))

theorem lowerCircuits_law (c : CircT) (h : WF circTy c) : bautalaw16_LowerCircuits 9000 c.1 c.2.1 c.2.2.1 c.2.2.2 = some true := by
  obtain ⟨gs, s, p, os⟩ := c
  have hw : Wds gs := wds_of h.1
  simp only [bautalaw16_LowerCircuits, bautalaw16_LowerCircuits_T, run_call, few_is, Option.bind_some, lives_holds 9000 (by omega), run_br, run_ret]
  by_cases hf : gs.length ≤ 900 ∧ os.length ≤ 300
  · obtain ⟨b1, b2, b3⟩ := lowS_bounds gs s p os hw
    simp only [decide_eq_true hf, own_is 9000 gs os (by omega) (by omega), real_circuit 9000 gs s p os hw (by omega) (by omega) (by omega), ref_circuit 9000 gs s p os hw (by omega) (by omega) (by omega), Option.bind_some]
    generalize lowS gs s p os = r at *
    simp only [same_refl 9000 r.2.2.2.1 r.1 r.2.1 r.2.2.2.2 (by omega) (by omega) (by omega) (by omega), real_plain 9000 r.2.2.2.1 r.1 r.2.1 r.2.2.2.2 b1 (by omega) (by omega) (by omega) (by omega), ref_plain 9000 r.2.2.2.1 r.1 r.2.1 r.2.2.2.2 b1 (by omega) (by omega) (by omega) (by omega),
      real_plain 9000 gs s p os hw (by omega) (by omega) (by omega) (by omega), ref_plain 9000 gs s p os hw (by omega) (by omega) (by omega) (by omega), real_ands 9000 r.2.2.2.1 r.1 r.2.1 r.2.2.2.2 b1 (by omega) (by omega) (by omega) (by omega), ref_ands 9000 r.2.2.2.1 r.1 r.2.1 r.2.2.2.2 b1 (by omega) (by omega) (by omega) (by omega),
      real_ands 9000 gs s p os hw (by omega) (by omega) (by omega) (by omega), ref_ands 9000 gs s p os hw (by omega) (by omega) (by omega) (by omega), Option.bind_some]
    simp
  · simp [hf]
end Go.Proofs.YtoahoagfkpfhnaaV
