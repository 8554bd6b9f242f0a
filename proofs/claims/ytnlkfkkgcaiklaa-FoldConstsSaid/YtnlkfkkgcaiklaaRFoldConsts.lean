/- The row of FoldConsts (printed by wip/rowgen.py). -/
import Derived.Test.YtnlkfkkgcaiklaaRows
import Derived.Test.YtnlkfkkgcaiklaaFoldp
import Derived.Test.YtnlkfkkgcaiklaaPFoldConsts
import Derived.WalkKit
import Derived.ProofKit
import Derived.OpenShut
import Derived.ShutString
import Derived.ChangeOld
import Derived.Below
import Derived.SizedLaws
namespace Go.Proofs.Ytnlkfkkgcaiklaa.foldConsts
open Go.ChangeShapes Go.WideShapes Go.ChangeAt Go.RowKit Go.Proofs.YtnlkfkkgcaiklaaV
set_option linter.unusedVariables false
theorem own : ownKnob Try.prog.godebug = none := by kernel_rfl
theorem laidOut : laidOutB Try.prog = true := by kernel_rfl
set_option maxRecDepth 100000 in
theorem lifted (os : Os) (started : os.Started) (H : Type) (enc : TypeId × Value → H) :
    ReturnsInHanded {} Try.checked os 6 .any (Rows.foldConstsSpec.pre6 enc Try.prog Try.f6 Rows.foldConstsRow.domain false) (Rows.foldConstsSpec.post enc Try.prog Try.f6 false true false false) := by
  refine returnsInHanded_of_change_sized (C := Try.checked) own started (by kernel_rfl) Try.func6
    (ChangeSpec.witness6 (enc := enc) (C := Try.checked) false ⟨#[], #[.agg #[.slice none 0 0, .int .i64 0, .int .i64 0, .slice none 0 0]], []⟩ 8 (by kernel_rfl) (by kernel_rfl) (by kernel_rfl) (by kernel_rfl)) ?_
  intro W base args ds gs before hval0 hW hcnd hsz0 _
  have hval : ∀ (j : Nat) t v, Try.f6.params[j]? = some t → args[j]? = some v → Value.okWide Try.prog W .any base t v := hval0
  have hW' := hW
  obtain ⟨p, q, hA0, hV, rfl, hfz, hnd⟩ := hW
  have hA : DataW.TrodAll enc Try.prog W 0 (fun _ => true) true Try.f6.params.toList args.toList ds p := hA0
  rw [Try.params6] at hA hval
  obtain ⟨v0, vs0, d0, ds0, p0, q0, hargs, rfl, rfl, h0, r0⟩ := trodAll_cons hA
  obtain ⟨rfl, rfl, rfl⟩ := trodAll_nil r0
  obtain rfl : args = #[v0] := by cases args; simp_all
  obtain ⟨rfl, rfl⟩ := trodVars_none hV
  have lt0 : ∀ x ∈ p0, x.block < W.heap.size := by obtain ⟨m, hm⟩ := h0; exact DataW.trod_lt m _ _ _ hm
  obtain ⟨x0, w0, u0⟩ := open_arg (n := 20) (ty := (.prod (.list (.prod (.int .i64) (.prod (.int .i64) (.prod (.int .i64) (.prod (.int .u32) .bool))))) (.prod (.int .i64) (.prod (.int .i64) (.list (.prod .str (.int .i64))))))) (ρ := fun _ => .unborn) (by kernel_rfl) (hval 0 25 v0 rfl rfl) h0
  have hc := (bautalaw17_FoldConsts_ok 30000).2 (x0.1, x0.2.1, x0.2.2.1, x0.2.2.2, ()) true (foldConsts_law x0 w0)
  refine (call_law (by kernel_rfl) hc (⟨fun b hb => by simp [GB] at hb, trivial⟩) (vals := [v0]) (VRs_cons.2 ⟨v0, _, rfl, u0, VRs_nil.2 rfl⟩)).mono fun e W' ⟨he, bel⟩ => ?_
  subst he
  exact ⟨_, rfl, _, _, _, [], _, [], hW', trodAll_mk1 (shut_bool Try.underlying4 _), (trodAll_cons_mk (Below.trod laidOut (by kernel_rfl) (of_decide_eq_true (by kernel_rfl)) h0 bel lt0) trodAll_mk0), rfl, bel.frame _, fun h => by cases h⟩
theorem over : Rows.foldConstsRow.holds Try.pinned (OpenSpec.ofChange Rows.foldConstsSpec) :=
  OpenClaim.holds_of_wide 6 Try.f6 rfl rfl rfl rfl rfl rfl rfl ⟨rfl, rfl, rfl, rfl, rfl⟩ rfl rfl rfl rfl rfl (by kernel_rfl) Try.func6 (by kernel_rfl)
    (of_decide_eq_true (by kernel_rfl)) (by unfold Func.isWrapper; first | (rw [if_pos (by decide +kernel)]; kernel_rfl) | (rw [if_neg (by decide +kernel)]; exact ⟨rfl, rfl⟩))
    (fun os started H enc _ => lifted os started H enc)
theorem proved : Rows.FoldConstsSaid := over
#print axioms proved
end Go.Proofs.Ytnlkfkkgcaiklaa.foldConsts
namespace Go.Proofs.Ytnlkfkkgcaiklaa
/-- The row, under a short name, for the claim. -/
theorem foldConsts_holds : Rows.FoldConstsSaid := foldConsts.proved
end Go.Proofs.Ytnlkfkkgcaiklaa
