/- The row of LexNames (printed by wip/rowgen.py). -/
import Derived.Test.YtedadodniodnaaaRows
import Derived.Test.YtedadodniodnaaaLexp
import Derived.Test.YtedadodniodnaaaPLexE
import Derived.ChangeMaps5
import Derived.Test.YtedadodniodnaaaVS
import Derived.HandedShaped
import Derived.WalkKit
import Derived.ProofKit
import Derived.OpenShut
import Derived.ShutString
import Derived.ChangeOld
import Derived.Below
import Derived.SizedLaws
namespace Go.Proofs.Ytedadodniodnaaa.lexNames
open Go.ChangeShapes Go.WideShapes Go.ChangeAt Go.RowKit Go.Proofs.YtedadodniodnaaaV
set_option linter.unusedVariables false
theorem own : ownKnob Try.prog.godebug = none := by kernel_rfl
theorem laidOut : laidOutB Try.prog = true := by kernel_rfl
/-- What the world's shape gives. -/
theorem gl_sh {W : World} (h : W.ShapedOpen Try.prog) : GL W := by
  obtain ⟨m, hm⟩ := YtedadodniodnaaaV.laysm144.s1_3 W h
  have hm' : W.cell? ⟨GB.headD 0, 0, none⟩ = some (.int .i64 m) := hm
  refine ⟨fun b hb => ?_, ⟨m, hm'⟩⟩
  have e : b = GB.headD 0 := by simpa [GB] using hb
  subst e
  unfold World.cell? at hm'
  simp only at hm'
  split at hm'
  · rename_i hh; exact (Array.getElem?_eq_some_iff.1 hh).1
  · cases hm'
set_option maxRecDepth 100000 in
theorem lifted (os : Os) (started : os.Started) (H : Type) (enc : TypeId × Value → H) :
    ReturnsInHanded {} Try.checked os 4 .any (Rows.lexNamesSpec.pre6 enc Try.prog Try.f4 Rows.lexNamesRow.domain false) (Rows.lexNamesSpec.post enc Try.prog Try.f4 false true false false) := by
  refine returnsInHanded_of_change_shaped (C := Try.checked) own started (by kernel_rfl) Try.func4
    (ChangeSpec.witness6 (enc := enc) (C := Try.checked) false ⟨#[], #[.string ByteArray.empty], []⟩ 8 (by kernel_rfl) (by kernel_rfl) (by kernel_rfl) (by kernel_rfl)) ?_
  intro W base args ds gs before hval0 hW hcnd hsz0 hsh _
  have hval : ∀ (j : Nat) t v, Try.f4.params[j]? = some t → args[j]? = some v → Value.okWide Try.prog W .any base t v := hval0
  have hW' := hW
  obtain ⟨p, q, hA0, hV, rfl, hfz, hnd⟩ := hW
  have hA : DataW.TrodAll enc Try.prog W 0 (fun _ => true) true Try.f4.params.toList args.toList ds p := hA0
  rw [Try.params4] at hA hval
  obtain ⟨v0, vs0, d0, ds0, p0, q0, hargs, rfl, rfl, h0, r0⟩ := trodAll_cons hA
  obtain ⟨rfl, rfl, rfl⟩ := trodAll_nil r0
  obtain rfl : args = #[v0] := by cases args; simp_all
  obtain ⟨rfl, rfl⟩ := trodVars_none hV
  have lt0 : ∀ x ∈ p0, x.block < W.heap.size := by obtain ⟨m, hm⟩ := h0; exact DataW.trod_lt m _ _ _ hm
  obtain ⟨x0, w0, u0⟩ := open_arg (n := 20) (ty := .str) (ρ := fun _ => .unborn) (by kernel_rfl) (hval 0 9 v0 rfl rfl) h0
  have z0 : x0.size ≤ 140737488355328 := by
    obtain ⟨s, e, de, _⟩ := Go.ChangeMaps.open_string Try.underlying9 (hval 0 9 v0 rfl rfl) h0
    have e2 : v0 = .string x0 := u0
    have e3 : s = x0 := by rw [e] at e2; exact Value.string.inj e2
    subst e3
    have := sized_string hsz0 (j := 0) (t := 9) (bytes := s.data.toList) (by kernel_rfl) (by rw [de]; rfl)
    have h2 : s.size = s.data.toList.length := Go.Lib.size_eq s
    have h3 := reachBytes_lt
    omega
  have hc := (bautalaw09_LexNames_ok 140737488400000).2 (x0, ()) true (lexNames_law x0 w0 z0)
  refine (call_law (by kernel_rfl) hc (gl_sh hsh) (vals := [v0]) (VRs_cons.2 ⟨v0, _, rfl, u0, VRs_nil.2 rfl⟩)).mono fun e W' ⟨he, bel⟩ => ?_
  subst he
  exact ⟨_, rfl, _, _, _, [], _, [], hW', trodAll_mk1 (shut_bool Try.underlying4 _), (trodAll_cons_mk (Below.trod laidOut (by kernel_rfl) (of_decide_eq_true (by kernel_rfl)) h0 bel lt0) trodAll_mk0), rfl, bel.frame _, fun h => by cases h⟩
theorem over : Rows.lexNamesRow.holds Try.pinned (OpenSpec.ofChange Rows.lexNamesSpec) :=
  OpenClaim.holds_of_wide 4 Try.f4 rfl rfl rfl rfl rfl rfl rfl ⟨rfl, rfl, rfl, rfl, rfl⟩ rfl rfl rfl rfl rfl (by kernel_rfl) Try.func4 (by kernel_rfl)
    (of_decide_eq_true (by kernel_rfl)) (by unfold Func.isWrapper; first | (rw [if_pos (by decide +kernel)]; kernel_rfl) | (rw [if_neg (by decide +kernel)]; exact ⟨rfl, rfl⟩))
    (fun os started H enc _ => lifted os started H enc)
theorem proved : Rows.LexNamesSaid := over
#print axioms proved
end Go.Proofs.Ytedadodniodnaaa.lexNames
namespace Go.Proofs.Ytedadodniodnaaa
/-- The row, under a short name, for the claim. -/
theorem lexNames_holds : Rows.LexNamesSaid := lexNames.proved
end Go.Proofs.Ytedadodniodnaaa
