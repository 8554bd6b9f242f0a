/- The row of NamesLeft (printed by wip/rowgen.py). -/
import Derived.Test.YtfogafinohfpfaaGreatDoorRows
import Derived.Test.YtfogafinohfpfaaGreatDoorNLp
import Derived.Test.YtfogafinohfpfaaGreatDoorPNlF
import Derived.Test.YtfogafinohfpfaaGreatDoorCards
import Derived.Test.YtfogafinohfpfaaGreatDoorTie
import Derived.Test.YtfogafinohfpfaaGreatDoorVS
import Derived.Test.YtfogafinohfpfaaGreatDoorWb
import Derived.SevenTiedAt
import Derived.LaidMore
import Derived.LaidHandle
import Derived.Stop.LaidErr
import Derived.Test.YtfogafinohfpfaaGreatDoorWe
import Derived.Deep.DeepHandedRow
import Derived.Deep.DeepWitnessRowRef
import Derived.WalkKit
import Derived.ProofKit
import Derived.OpenShut
import Derived.ShutString
import Derived.ChangeOld
import Derived.Below
import Derived.SizedLaws
namespace Go.Proofs.YtfogafinohfpfaaGreatDoor.namesLeft
open Go.ChangeShapes Go.WideShapes Go.ChangeAt Go.RowKit Go.Proofs.YtfogafinohfpfaaGreatDoorV
set_option linter.unusedVariables false
theorem own : ownKnob Tryz.prog.godebug = none := by kernel_rfl
theorem laidOut : laidOutB Tryz.prog = true := by kernel_rfl
/-- What the row's condition and the world's shape give: the tables; some number. -/
theorem gl_of {W : World} (h : laidMetH Tryz.prog Rows.namesLeftUptoRow.laid W) (hsh : W.ShapedOpen Tryz.prog) : GL W := by
  rw [MakeChecks.laidMetH_plain _ _ _ (by kernel_rfl)] at h
  have h1 : laidMet Tryz.prog [("bauta/parse.levels", Rows.laid_bauta_parse_levels)] W := h
  have t0 := tab_of_laid (n := 5) (g := 0) (t := 222) (vs := ((gtLook GT 0).map GTab.vals).getD []) (by kernel_rfl) (by kernel_rfl) (by kernel_rfl) (by kernel_rfl) h1
  have tabs : ∀ p ∈ GT, ∃ l z, W.heap[p.1]? = some (.cells p.2.vals.toArray l z) := by
    intro p hp
    simp only [GT, List.mem_cons, List.not_mem_nil, or_false] at hp
    rcases hp with rfl
    · exact t0
  obtain ⟨m, hm⟩ := YtfogafinohfpfaaGreatDoorV.laysm144.s1_3 W hsh
  have hm' : W.cell? ⟨4, 0, none⟩ = some (.int .i64 m) := hm
  refine ⟨fun b hb => ?_, ⟨tabs, fun g hg => ?_⟩⟩
  · rcases List.mem_append.1 hb with hb | hb
    · obtain ⟨p, hp, rfl⟩ := List.mem_map.1 hb
      obtain ⟨l, z, h⟩ := tabs p hp
      exact (Array.getElem?_eq_some_iff.1 h).1
    · have e : b = 4 := by simpa using hb
      subst e
      unfold World.cell? at hm'
      simp only at hm'
      split at hm'
      · rename_i hh; exact (Array.getElem?_eq_some_iff.1 hh).1
      · cases hm'
  · have e : g = 4 := by simpa using hg
    subst e
    exact ⟨m, hm'⟩
theorem door_met (os : Os) (args : Array Value) : laidMetH Tryz.prog Rows.namesLeftUptoRow.laid ((World.doorLaid Tryz.prog 400 os).forCall (fun _ _ => 0) ⟨#[], args, []⟩).memory :=
  laidMetH_of_parts3 (fuel := 8) (laidMet_of_run' 8 (by kernel_rfl) (by kernel_rfl)) (by kernel_rfl) (by kernel_rfl)
theorem reads (os : Os) {H : Type} (enc : TypeId × Value → H) : ∃ places, DataW.whole enc Tryz.prog ((World.doorLaid Tryz.prog 400 os).forCall (fun _ _ => 0) ⟨#[], #[.agg #[.int .i64 0, .string ByteArray.empty, .int .u32 0, .int .i64 0, .slice none 0 0, .slice none 0 0], .int .u8 0], []⟩).memory Tryz.f6.params.toList Rows.namesLeftSpec.vars false (#[.agg #[.int .i64 0, .string ByteArray.empty, .int .u32 0, .int .i64 0, .slice none 0 0, .slice none 0 0], .int .u8 0] : Array Value).toList 8 = some ([.agg [.lit (.int .i64 0), .lit (.string []), .lit (.int .u32 0), .lit (.int .i64 0), .nil, .nil], .lit (.int .u8 0)], [], places) := ⟨[], by kernel_rfl⟩
set_option maxRecDepth 100000 in
theorem lifted (os : Os) (started : os.Started) (H : Type) (enc : TypeId × Value → H) (F : Stop.Interp) :
    ReturnsInHanded {} Tryz.checked os 6 .any ((Rows.OpenSpec.upto Rows.namesLeftSpec).preRow enc Tryz.prog Tryz.f6 Rows.namesLeftUptoRow.domain false Rows.namesLeftUptoRow.laid) (((Rows.OpenSpec.upto Rows.namesLeftSpec).at F).post enc Tryz.prog Tryz.f6 false true false false) := by
  obtain ⟨places, hx⟩ := reads os enc
  refine returnsInHanded_of_row (C := Tryz.checked) (s := Rows.OpenSpec.upto Rows.namesLeftSpec) own started (by kernel_rfl) Tryz.func6
    (witness_row_atRef (enc := enc) (C := Tryz.checked) false (World.doorLaid Tryz.prog 400 os) #[.agg #[.int .i64 0, .string ByteArray.empty, .int .u32 0, .int .i64 0, .slice none 0 0, .slice none 0 0], .int .u8 0] rfl (by kernel_rfl) (by kernel_rfl) (by kernel_rfl)
      (OpenSpec.preRow_of_cond 8 hx (by kernel_rfl) (fun k hk => by cases hk; kernel_rfl) (by kernel_rfl) (door_met os _))) ?_
  intro W base args ds gs before hval0 hW _ hcond hsz0 hL hsh _
  have hk := hcond _ rfl
  have hval : ∀ (j : Nat) t v, Tryz.f6.params[j]? = some t → args[j]? = some v → Value.okWide Tryz.prog W .any base t v := hval0
  have hW' := hW
  obtain ⟨p, q, hA0, hV, rfl, hfz, hnd⟩ := hW
  have hA : DataW.TrodAll enc Tryz.prog W 0 (fun _ => true) true Tryz.f6.params.toList args.toList ds p := hA0
  rw [Tryz.params6] at hA hval
  obtain ⟨v0, vs0, d0, ds0, p0, q0, hargs, rfl, rfl, h0, r0⟩ := trodAll_cons hA
  obtain ⟨v1, vs1, d1, ds1, p1, q1, rfl, rfl, rfl, h1, r1⟩ := trodAll_cons r0
  obtain ⟨rfl, rfl, rfl⟩ := trodAll_nil r1
  obtain rfl : args = #[v0, v1] := by cases args; simp_all
  obtain ⟨rfl, rfl⟩ := trodVars_none hV
  have lt0 : ∀ x ∈ p0, x.block < W.heap.size := by obtain ⟨m, hm⟩ := h0; exact DataW.trod_lt m _ _ _ hm
  obtain ⟨x0, w0, u0⟩ := open_arg (n := 20) (ty := .node) (ρ := fun _ => .unborn) (by kernel_rfl) (hval 0 30 v0 rfl rfl) h0
  have z0 : NK 1048576 x0 := by
    have ua := u0
    rw [show argV Tryz.prog 30 .node x0 = .agg (Go.Proofs.YtfogafinohfpfaaGreatDoorV.enc .node x0) by kernel_rfl] at ua
    exact node_small (t := 30) (by kernel_rfl) ua h0 hk (by simp)
  have lt1 : ∀ x ∈ p1, x.block < W.heap.size := by obtain ⟨m, hm⟩ := h1; exact DataW.trod_lt m _ _ _ hm
  obtain ⟨x1, w1, u1⟩ := open_arg (n := 20) (ty := (.int .u8)) (ρ := fun _ => .unborn) (by kernel_rfl) (hval 1 5 v1 rfl rfl) h1
  have hc := ((bautalaw12_NamesLeft_ok 4294304002).2 ((Node.k x0), (Node.s x0), (Node.n x0), (Node.a x0), (Node.l x0), (Node.p x0), x1, ()) true (namesLeft_law x0 w0 z0 x1 w1)).1
  refine (call_law (by kernel_rfl) hc (gl_of hL hsh) (vals := [v0, v1]) (VRs_cons.2 ⟨v0, _, rfl, u0, VRs_cons.2 ⟨v1, _, rfl, u1, VRs_nil.2 rfl⟩⟩)).mono fun e W' ⟨he, bel⟩ => ?_
  subst he
  exact ⟨_, rfl, _, _, _, [], _, [], hW', trodAll_mk1 (shut_bool Tryz.underlying4 _), (trodAll_cons_mk (Below.trod laidOut (by kernel_rfl) (of_decide_eq_true (by kernel_rfl)) h0 bel lt0) (trodAll_cons_mk (Below.trod laidOut (by kernel_rfl) (of_decide_eq_true (by kernel_rfl)) h1 bel lt1) trodAll_mk0)), rfl, bel.frame _, fun h => by cases h⟩
theorem over : Rows.namesLeftUptoRow.holds Tryz.pinned (Rows.OpenSpec.upto Rows.namesLeftSpec) :=
  OpenClaim.holds_of_cond 6 Tryz.f6 rfl rfl rfl rfl rfl rfl rfl ⟨rfl, rfl, rfl, rfl, rfl⟩ rfl rfl rfl rfl rfl (by kernel_rfl) Tryz.func6 (by kernel_rfl)
    (of_decide_eq_true (by kernel_rfl)) (by unfold Func.isWrapper; first | (rw [if_pos (by decide +kernel)]; kernel_rfl) | (rw [if_neg (by decide +kernel)]; exact ⟨rfl, rfl⟩))
    (fun os started H enc _ F => by rw [OpenClaim.pre_eq_preRow]; exact lifted os started H enc F)
/-- The tied card. -/
theorem card : Rows.NamesLeftUptoCardSaid :=
  Claim7.holds_tied_plain_at .later [] [.widerDeep] true (true, "dd365541e634ee217ce411b7fb003ec08d6c47d078f50c345316fa3fef0d7875") true
    over (fun _ h => by cases h) (by kernel_rfl) (fun _ h => by cases h) namesLeftUpto_row_tie rfl ⟨rfl, rfl⟩ (by kernel_rfl) rfl
    (fun f fn hf hfn => by
      obtain rfl : f = 6 := Option.some.inj ((show Tryz.prog.funcNamed "bauta/bautalaw12.NamesLeft" = some 6 by kernel_rfl).symm.trans hf) |>.symm
      obtain rfl : fn = Tryz.f6 := (Option.some.inj (Tryz.func6.symm.trans hfn)).symm
      exact ⟨by kernel_rfl, fun j t ht => by
        rw [Tryz.params6] at ht
        have hm : t ∈ [30, 5] := by simpa using Array.mem_of_getElem? ht
        have hall : ([30, 5].all fun u => !Tryz.prog.wantsStandIn u) = true := by kernel_rfl
        exact (show Tryz.prog.wantsStandIn t = false by simpa using List.all_eq_true.1 hall t hm)⟩)
    (by kernel_rfl)
#print axioms card
end Go.Proofs.YtfogafinohfpfaaGreatDoor.namesLeft
namespace Go.Proofs.YtfogafinohfpfaaGreatDoor
/-- The card, under a short name, for the claim. -/
theorem namesLeft_holds : Rows.NamesLeftUptoCardSaid := namesLeft.card
end Go.Proofs.YtfogafinohfpfaaGreatDoor
