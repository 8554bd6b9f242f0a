/- The row of NamesUses (printed by wip/rowgen.py). -/
import Derived.Test.YtfogafinohfpfaaGreatDoorRows
import Derived.Test.YtfogafinohfpfaaGreatDoorNUp
import Derived.Test.YtfogafinohfpfaaGreatDoorPTrU
import Derived.Test.YtfogafinohfpfaaGreatDoorCards
import Derived.Test.YtfogafinohfpfaaGreatDoorTie
import Derived.Test.YtfogafinohfpfaaGreatDoorVS
import Derived.Test.YtfogafinohfpfaaGreatDoorWb
import Derived.SevenTiedAt
import Derived.LaidMore
import Derived.LaidHandle
import Derived.Stop.LaidErr
import Derived.WalkKit
import Derived.ProofKit
import Derived.OpenShut
import Derived.ShutString
import Derived.ChangeOld
import Derived.Below
import Derived.SizedLaws
namespace Go.Proofs.YtfogafinohfpfaaGreatDoor.namesUses
open Go.ChangeShapes Go.WideShapes Go.ChangeAt Go.RowKit Go.Proofs.YtfogafinohfpfaaGreatDoorV
set_option linter.unusedVariables false
theorem own : ownKnob Tryz.prog.godebug = none := by kernel_rfl
theorem laidOut : laidOutB Tryz.prog = true := by kernel_rfl
/-- What the row's condition and the world's shape give: the tables; some number. -/
theorem gl_of {W : World} (h : laidMetH Tryz.prog Rows.namesUsesRow.laid W) (hsh : W.ShapedOpen Tryz.prog) : GL W := by
  rw [MakeChecks.laidMetH_plain _ _ _ (by kernel_rfl)] at h
  have h1 : laidMet Tryz.prog [("bauta/parse.levels", Rows.laid_bauta_parse_levels)] W := h
  have t0 := tab_of_laid (n := 5) (g := 0) (t := 222) (vs := ((gtLook GT 0).map GTab.vals).getD []) (by kernel_rfl) (by kernel_rfl) (by kernel_rfl) (by kernel_rfl) h1
  have tabs : ∀ p ∈ GT, ∃ l z, W.heap[p.1]? = some (.cells p.2.vals.toArray l z) := by
    intro p hp
    simp only [GT, List.mem_cons, List.not_mem_nil, or_false] at hp
    rcases hp with rfl
    · exact t0
  obtain ⟨m, hm⟩ := YtfogafinohfpfaaGreatDoorV.laysm144.s1_3 W hsh
  have hm' : W.cell? ⟨4, 0, none⟩ = some (.int .i64 m) := hm
  refine ⟨fun b hb => ?_, ⟨tabs, fun g hg => ?_⟩⟩
  · rcases List.mem_append.1 hb with hb | hb
    · obtain ⟨p, hp, rfl⟩ := List.mem_map.1 hb
      obtain ⟨l, z, h⟩ := tabs p hp
      exact (Array.getElem?_eq_some_iff.1 h).1
    · have e : b = 4 := by simpa using hb
      subst e
      unfold World.cell? at hm'
      simp only at hm'
      split at hm'
      · rename_i hh; exact (Array.getElem?_eq_some_iff.1 hh).1
      · cases hm'
  · have e : g = 4 := by simpa using hg
    subst e
    exact ⟨m, hm'⟩
theorem door_met (os : Os) (args : Array Value) : laidMetH Tryz.prog Rows.namesUsesRow.laid ((World.doorLaid Tryz.prog 400 os).forCall (fun _ _ => 0) ⟨#[], args, []⟩).memory :=
  laidMetH_of_parts3 (fuel := 8) (laidMet_of_run' 8 (by kernel_rfl) (by kernel_rfl)) (by kernel_rfl) (by kernel_rfl)
set_option maxRecDepth 100000 in
theorem lifted (os : Os) (started : os.Started) (H : Type) (enc : TypeId × Value → H) :
    ReturnsInHanded {} Tryz.checked os 7 .any (fun w args => (Rows.namesUsesSpec.pre enc Tryz.prog Tryz.f7 [] false w args ∧ laidMetH Tryz.prog Rows.namesUsesRow.laid w) ∧ sizedMet enc Tryz.prog Tryz.f7 (OpenSpec.ofChange Rows.namesUsesSpec) false w args) (Rows.namesUsesSpec.post enc Tryz.prog Tryz.f7 false true false false) := by
  refine returns_both (C := Tryz.checked) (X := fun w _ => laidMetH Tryz.prog Rows.namesUsesRow.laid w) (fun _ _ _ hh h => h.of_heap hh) own started (by kernel_rfl) Tryz.func7
    (ChangeSpec.witness_shaped (enc := enc) (C := Tryz.checked) (os := os) (X := fun w _ => laidMetH Tryz.prog Rows.namesUsesRow.laid w) false (World.doorLaid Tryz.prog 400 os) #[.agg #[.int .i64 0, .string ByteArray.empty, .int .u32 0, .int .i64 0, .slice none 0 0, .slice none 0 0]] 8 rfl (World.shaped_of_RefB (by kernel_rfl) (by kernel_rfl)) (by kernel_rfl) (by kernel_rfl) (by kernel_rfl) (door_met os _)) ?_
  intro W base args ds gs before hval0 hW _ hsz0 hL hsh _
  have hval : ∀ (j : Nat) t v, Tryz.f7.params[j]? = some t → args[j]? = some v → Value.okWide Tryz.prog W .any base t v := hval0
  have hW' := hW
  obtain ⟨p, q, hA0, hV, rfl, hfz, hnd⟩ := hW
  have hA : DataW.TrodAll enc Tryz.prog W 0 (fun _ => true) true Tryz.f7.params.toList args.toList ds p := hA0
  rw [Tryz.params7] at hA hval
  obtain ⟨v0, vs0, d0, ds0, p0, q0, hargs, rfl, rfl, h0, r0⟩ := trodAll_cons hA
  obtain ⟨rfl, rfl, rfl⟩ := trodAll_nil r0
  obtain rfl : args = #[v0] := by cases args; simp_all
  obtain ⟨rfl, rfl⟩ := trodVars_none hV
  have lt0 : ∀ x ∈ p0, x.block < W.heap.size := by obtain ⟨m, hm⟩ := h0; exact DataW.trod_lt m _ _ _ hm
  obtain ⟨x0, w0, u0⟩ := open_arg (n := 20) (ty := .node) (ρ := fun _ => .unborn) (by kernel_rfl) (hval 0 30 v0 rfl rfl) h0
  have hc := ((bautalaw12_NamesUses_ok 100002).2 ((Node.k x0), (Node.s x0), (Node.n x0), (Node.a x0), (Node.l x0), (Node.p x0), ()) true (namesUses_law x0 w0)).1
  refine (call_law (by kernel_rfl) hc (gl_of hL hsh) (vals := [v0]) (VRs_cons.2 ⟨v0, _, rfl, u0, VRs_nil.2 rfl⟩)).mono fun e W' ⟨he, bel⟩ => ?_
  subst he
  exact ⟨_, rfl, _, _, _, [], _, [], hW', trodAll_mk1 (shut_bool Tryz.underlying4 _), (trodAll_cons_mk (Below.trod laidOut (by kernel_rfl) (of_decide_eq_true (by kernel_rfl)) h0 bel lt0) trodAll_mk0), rfl, bel.frame _, fun h => by cases h⟩
theorem over : Rows.namesUsesRow.holds Tryz.pinned (OpenSpec.ofChange Rows.namesUsesSpec) :=
  OpenClaim.holds_of_wide 7 Tryz.f7 rfl rfl rfl rfl rfl rfl rfl ⟨rfl, rfl, rfl, rfl, rfl⟩ rfl rfl rfl rfl rfl (by kernel_rfl) Tryz.func7 (by kernel_rfl)
    (of_decide_eq_true (by kernel_rfl)) (by unfold Func.isWrapper; first | (rw [if_pos (by decide +kernel)]; kernel_rfl) | (rw [if_neg (by decide +kernel)]; exact ⟨rfl, rfl⟩))
    (fun os started H enc _ => lifted os started H enc)
/-- The tied card. -/
theorem card : Rows.NamesUsesCardSaid :=
  Claim7.holds_tied_plain_at .later [] [.widerDeep] true (true, "dd365541e634ee217ce411b7fb003ec08d6c47d078f50c345316fa3fef0d7875") true
    over (fun _ h => by cases h) (by kernel_rfl) (fun _ h => by cases h) namesUses_row_tie rfl ⟨rfl, rfl⟩ (by kernel_rfl) rfl
    (fun f fn hf hfn => by
      obtain rfl : f = 7 := Option.some.inj ((show Tryz.prog.funcNamed "bauta/bautalaw12.NamesUses" = some 7 by kernel_rfl).symm.trans hf) |>.symm
      obtain rfl : fn = Tryz.f7 := (Option.some.inj (Tryz.func7.symm.trans hfn)).symm
      exact ⟨by kernel_rfl, fun j t ht => by
        rw [Tryz.params7] at ht
        have hm : t ∈ [30] := by simpa using Array.mem_of_getElem? ht
        have hall : ([30].all fun u => !Tryz.prog.wantsStandIn u) = true := by kernel_rfl
        exact (show Tryz.prog.wantsStandIn t = false by simpa using List.all_eq_true.1 hall t hm)⟩)
    (by kernel_rfl)
#print axioms card
end Go.Proofs.YtfogafinohfpfaaGreatDoor.namesUses
namespace Go.Proofs.YtfogafinohfpfaaGreatDoor
/-- The card, under a short name, for the claim. -/
theorem namesUses_holds : Rows.NamesUsesCardSaid := namesUses.card
end Go.Proofs.YtfogafinohfpfaaGreatDoor
