/- The row of CircCans (printed by wip/rowgen.py). -/
import Derived.Test.YtgajjcehnpaooaaGreatDoorRows
import Derived.Test.YtgajjcehnpaooaaGreatDoorCirp
import Derived.Test.YtgajjcehnpaooaaGreatDoorPCirC
import Derived.Test.YtgajjcehnpaooaaGreatDoorWc
import Derived.Test.YtgajjcehnpaooaaGreatDoorCards
import Derived.Test.YtgajjcehnpaooaaGreatDoorTie
import Derived.Test.YtgajjcehnpaooaaGreatDoorVS
import Derived.Test.YtgajjcehnpaooaaGreatDoorWb
import Derived.SevenTiedAt
import Derived.LaidMore
import Derived.LaidHandle
import Derived.Stop.LaidErr
import Derived.WalkKit
import Derived.ProofKit
import Derived.OpenShut
import Derived.ShutString
import Derived.ChangeOld
import Derived.Below
import Derived.SizedLaws
namespace Go.Proofs.YtgajjcehnpaooaaGreatDoor.circCans
open Go.ChangeShapes Go.WideShapes Go.ChangeAt Go.RowKit Go.Proofs.YtgajjcehnpaooaaGreatDoorV
set_option linter.unusedVariables false
theorem own : ownKnob Tryz.prog.godebug = none := by kernel_rfl
theorem laidOut : laidOutB Tryz.prog = true := by kernel_rfl
/-- What the row's condition and the world's shape give: the tables; some number. -/
theorem gl_of {W : World} (h : laidMetH Tryz.prog Rows.circCansRow.laid W) (hsh : W.ShapedOpen Tryz.prog) : GL W := by
  rw [MakeChecks.laidMetH_plain _ _ _ (by kernel_rfl)] at h
  have h1 : laidMet Tryz.prog [("bauta/parse.levels", Rows.laid_bauta_parse_levels)] W := h
  have t0 := tab_of_laid (n := 5) (g := 0) (t := 180) (vs := ((gtLook GT 0).map GTab.vals).getD []) (by kernel_rfl) (by kernel_rfl) (by kernel_rfl) (by kernel_rfl) h1
  have tabs : ∀ p ∈ GT, ∃ l z, W.heap[p.1]? = some (.cells p.2.vals.toArray l z) := by
    intro p hp
    simp only [GT, List.mem_cons, List.not_mem_nil, or_false] at hp
    rcases hp with rfl
    · exact t0
  obtain ⟨m, hm⟩ := YtgajjcehnpaooaaGreatDoorV.laysm144.s1_3 W hsh
  have hm' : W.cell? ⟨1, 0, none⟩ = some (.int .i64 m) := hm
  refine ⟨fun b hb => ?_, ⟨tabs, fun g hg => ?_⟩⟩
  · rcases List.mem_append.1 hb with hb | hb
    · obtain ⟨p, hp, rfl⟩ := List.mem_map.1 hb
      obtain ⟨l, z, h⟩ := tabs p hp
      exact (Array.getElem?_eq_some_iff.1 h).1
    · have e : b = 1 := by simpa using hb
      subst e
      unfold World.cell? at hm'
      simp only at hm'
      split at hm'
      · rename_i hh; exact (Array.getElem?_eq_some_iff.1 hh).1
      · cases hm'
  · have e : g = 1 := by simpa using hg
    subst e
    exact ⟨m, hm'⟩
theorem door_met (os : Os) (args : Array Value) : laidMetH Tryz.prog Rows.circCansRow.laid ((World.doorLaid Tryz.prog 400 os).forCall (fun _ _ => 0) ⟨#[], args, []⟩).memory :=
  laidMetH_of_parts3 (fuel := 8) (laidMet_of_run' 8 (by kernel_rfl) (by kernel_rfl)) (by kernel_rfl) (by kernel_rfl)
set_option maxRecDepth 100000 in
theorem lifted (os : Os) (started : os.Started) (H : Type) (enc : TypeId × Value → H) :
    ReturnsInHanded {} Tryz.checked os 3 .any (fun w args => (Rows.circCansSpec.pre enc Tryz.prog Tryz.f3 [] false w args ∧ laidMetH Tryz.prog Rows.circCansRow.laid w) ∧ sizedMet enc Tryz.prog Tryz.f3 (OpenSpec.ofChange Rows.circCansSpec) false w args) (Rows.circCansSpec.post enc Tryz.prog Tryz.f3 false true false false) := by
  refine returns_both (C := Tryz.checked) (X := fun w _ => laidMetH Tryz.prog Rows.circCansRow.laid w) (fun _ _ _ hh h => h.of_heap hh) own started (by kernel_rfl) Tryz.func3
    (ChangeSpec.witness_shaped (enc := enc) (C := Tryz.checked) (os := os) (X := fun w _ => laidMetH Tryz.prog Rows.circCansRow.laid w) false (World.doorLaid Tryz.prog 400 os) #[.agg #[.slice none 0 0, .int .i64 0, .int .i64 0, .slice none 0 0]] 8 rfl (World.shaped_of_RefB (by kernel_rfl) (by kernel_rfl)) (by kernel_rfl) (by kernel_rfl) (by kernel_rfl) (door_met os _)) ?_
  intro W base args ds gs before hval0 hW _ hsz0 hL hsh _
  have hval : ∀ (j : Nat) t v, Tryz.f3.params[j]? = some t → args[j]? = some v → Value.okWide Tryz.prog W .any base t v := hval0
  have hW' := hW
  obtain ⟨p, q, hA0, hV, rfl, hfz, hnd⟩ := hW
  have hA : DataW.TrodAll enc Tryz.prog W 0 (fun _ => true) true Tryz.f3.params.toList args.toList ds p := hA0
  rw [Tryz.params3] at hA hval
  obtain ⟨v0, vs0, d0, ds0, p0, q0, hargs, rfl, rfl, h0, r0⟩ := trodAll_cons hA
  obtain ⟨rfl, rfl, rfl⟩ := trodAll_nil r0
  obtain rfl : args = #[v0] := by cases args; simp_all
  obtain ⟨rfl, rfl⟩ := trodVars_none hV
  have lt0 : ∀ x ∈ p0, x.block < W.heap.size := by obtain ⟨m, hm⟩ := h0; exact DataW.trod_lt m _ _ _ hm
  obtain ⟨x0, w0, u0⟩ := open_arg (n := 20) (ty := (.prod (.list (.prod (.int .i64) (.prod (.int .i64) (.prod (.int .i64) (.prod (.int .u32) .bool))))) (.prod (.int .i64) (.prod (.int .i64) (.list (.prod .str (.int .i64))))))) (ρ := fun _ => .unborn) (by kernel_rfl) (hval 0 25 v0 rfl rfl) h0
  have ea0 : argV Tryz.prog 25 (.prod (.list (.prod (.int .i64) (.prod (.int .i64) (.prod (.int .i64) (.prod (.int .u32) .bool))))) (.prod (.int .i64) (.prod (.int .i64) (.list (.prod .str (.int .i64)))))) x0 = .agg [.imm (.prod (.int .i64) (.prod (.int .i64) (.prod (.int .i64) (.prod (.int .u32) .bool)))) x0.1, .int .i64 x0.2.1, .int .i64 x0.2.2.1, .imm (.prod .str (.int .i64)) x0.2.2.2] := by kernel_rfl
  have ua0 := u0
  rw [ea0] at ua0
  obtain ⟨cs0, ev0, c0_0, l0_0, e0_0, k0_0, c0_1, l0_1, e0_1, k0_1, c0_2, l0_2, e0_2, k0_2, c0_3, l0_3, e0_3, k0_3, -⟩ := ua0
  have z0_0 : x0.1.length * 32 < 140737488355328 := by
    have := field_len (t := 25) (e := 37) (k := 0) Tryz.underlying25 rfl (by kernel_rfl) Tryz.underlying22 (c := c0_0) (by rw [ev0]; show cs0.toList[_]? = _; rw [e0_0]; rfl) k0_0 h0 hsz0 (j := 0) (by kernel_rfl) rfl
    have hb : Tryz.prog.bytesOf 37 = 32 := by kernel_rfl
    rw [hb] at this
    have h3 := reachBytes_lt
    omega
  have z0_3 : x0.2.2.2.length * 24 < 140737488355328 := by
    have := field_len (t := 25) (e := 41) (k := 3) Tryz.underlying25 rfl (by kernel_rfl) Tryz.underlying23 (c := c0_3) (by rw [ev0]; show cs0.toList[_]? = _; rw [e0_0, e0_1, e0_2, e0_3]; rfl) k0_3 h0 hsz0 (j := 0) (by kernel_rfl) rfl
    have hb : Tryz.prog.bytesOf 41 = 24 := by kernel_rfl
    rw [hb] at this
    have h3 := reachBytes_lt
    omega
  have hc := ((bautalaw15_CircCans_ok 6000000000000).2 (x0.1, x0.2.1, x0.2.2.1, x0.2.2.2, ()) true (circCans_law x0 w0 z0_0 z0_3)).1
  refine (call_law (by kernel_rfl) hc (gl_of hL hsh) (vals := [v0]) (VRs_cons.2 ⟨v0, _, rfl, u0, VRs_nil.2 rfl⟩)).mono fun e W' ⟨he, bel⟩ => ?_
  subst he
  exact ⟨_, rfl, _, _, _, [], _, [], hW', trodAll_mk1 (shut_bool Tryz.underlying4 _), (trodAll_cons_mk (Below.trod laidOut (by kernel_rfl) (of_decide_eq_true (by kernel_rfl)) h0 bel lt0) trodAll_mk0), rfl, bel.frame _, fun h => by cases h⟩
theorem over : Rows.circCansRow.holds Tryz.pinned (OpenSpec.ofChange Rows.circCansSpec) :=
  OpenClaim.holds_of_wide 3 Tryz.f3 rfl rfl rfl rfl rfl rfl rfl ⟨rfl, rfl, rfl, rfl, rfl⟩ rfl rfl rfl rfl rfl (by kernel_rfl) Tryz.func3 (by kernel_rfl)
    (of_decide_eq_true (by kernel_rfl)) (by unfold Func.isWrapper; first | (rw [if_pos (by decide +kernel)]; kernel_rfl) | (rw [if_neg (by decide +kernel)]; exact ⟨rfl, rfl⟩))
    (fun os started H enc _ => lifted os started H enc)
/-- The tied card. -/
theorem card : Rows.CircCansCardSaid :=
  Claim7.holds_tied_plain_at .later [] [.widerDeep] true (true, "ed3177e6abf69a5953a7fbbd9e9cfc2c50b6697e434d3cc330489f7e62b3cded") true
    over (fun _ h => by cases h) (by kernel_rfl) (fun _ h => by cases h) circCans_row_tie rfl ⟨rfl, rfl⟩ (by kernel_rfl) rfl
    (fun f fn hf hfn => by
      obtain rfl : f = 3 := Option.some.inj ((show Tryz.prog.funcNamed "bauta/bautalaw15.CircCans" = some 3 by kernel_rfl).symm.trans hf) |>.symm
      obtain rfl : fn = Tryz.f3 := (Option.some.inj (Tryz.func3.symm.trans hfn)).symm
      exact ⟨by kernel_rfl, fun j t ht => by
        rw [Tryz.params3] at ht
        have hm : t ∈ [25] := by simpa using Array.mem_of_getElem? ht
        have hall : ([25].all fun u => !Tryz.prog.wantsStandIn u) = true := by kernel_rfl
        exact (show Tryz.prog.wantsStandIn t = false by simpa using List.all_eq_true.1 hall t hm)⟩)
    (by kernel_rfl)
#print axioms card
end Go.Proofs.YtgajjcehnpaooaaGreatDoor.circCans
namespace Go.Proofs.YtgajjcehnpaooaaGreatDoor
/-- The card, under a short name, for the claim. -/
theorem circCans_holds : Rows.CircCansCardSaid := circCans.card
end Go.Proofs.YtgajjcehnpaooaaGreatDoor
