/- The row of ParseJoins (printed by wip/rowgen.py). -/
import Derived.Test.YtfbnofpfinenkaaDoorRows
import Derived.Test.YtfbnofpfinenkaaDoorParp
import Derived.Test.YtfbnofpfinenkaaDoorPParI
import Derived.ChangeMaps5
import Derived.Test.YtfbnofpfinenkaaDoorCards
import Derived.Test.YtfbnofpfinenkaaDoorTie
import Derived.Test.YtfbnofpfinenkaaDoorVS
import Derived.Test.YtfbnofpfinenkaaDoorWb
import Derived.SevenTiedAt
import Derived.LaidMore
import Derived.LaidHandle
import Derived.Stop.LaidErr
import Derived.WalkKit
import Derived.ProofKit
import Derived.OpenShut
import Derived.ShutString
import Derived.ChangeOld
import Derived.Below
import Derived.SizedLaws
namespace Go.Proofs.YtfbnofpfinenkaaDoor.parseJoins
open Go.ChangeShapes Go.WideShapes Go.ChangeAt Go.RowKit Go.Proofs.YtfbnofpfinenkaaDoorV
set_option linter.unusedVariables false
theorem own : ownKnob Tryd.prog.godebug = none := by kernel_rfl
theorem laidOut : laidOutB Tryd.prog = true := by kernel_rfl
/-- What the row's condition and the world's shape give: the tables; some number. -/
theorem gl_of {W : World} (h : laidMetH Tryd.prog Rows.parseJoinsRow.laid W) (hsh : W.ShapedOpen Tryd.prog) : GL W := by
  rw [MakeChecks.laidMetH_plain _ _ _ (by kernel_rfl)] at h
  have h1 : laidMet Tryd.prog [("bauta/parse.levels", Rows.laid_bauta_parse_levels)] W := h
  have t0 := tab_of_laid (n := 5) (g := 0) (t := 76) (vs := ((gtLook GT 0).map GTab.vals).getD []) (by kernel_rfl) (by kernel_rfl) (by kernel_rfl) (by kernel_rfl) h1
  have tabs : ∀ p ∈ GT, ∃ l z, W.heap[p.1]? = some (.cells p.2.vals.toArray l z) := by
    intro p hp
    simp only [GT, List.mem_cons, List.not_mem_nil, or_false] at hp
    rcases hp with rfl
    · exact t0
  obtain ⟨m, hm⟩ := YtfbnofpfinenkaaDoorV.laysm144.s1_3 W hsh
  have hm' : W.cell? ⟨1, 0, none⟩ = some (.int .i64 m) := hm
  refine ⟨fun b hb => ?_, ⟨tabs, fun g hg => ?_⟩⟩
  · rcases List.mem_append.1 hb with hb | hb
    · obtain ⟨p, hp, rfl⟩ := List.mem_map.1 hb
      obtain ⟨l, z, h⟩ := tabs p hp
      exact (Array.getElem?_eq_some_iff.1 h).1
    · have e : b = 1 := by simpa using hb
      subst e
      unfold World.cell? at hm'
      simp only at hm'
      split at hm'
      · rename_i hh; exact (Array.getElem?_eq_some_iff.1 hh).1
      · cases hm'
  · have e : g = 1 := by simpa using hg
    subst e
    exact ⟨m, hm'⟩
theorem door_met (os : Os) (args : Array Value) : laidMetH Tryd.prog Rows.parseJoinsRow.laid ((World.doorLaid Tryd.prog 400 os).forCall (fun _ _ => 0) ⟨#[], args, []⟩).memory :=
  laidMetH_of_parts3 (fuel := 8) (laidMet_of_run' 8 (by kernel_rfl) (by kernel_rfl)) (by kernel_rfl) (by kernel_rfl)
set_option maxRecDepth 100000 in
theorem lifted (os : Os) (started : os.Started) (H : Type) (enc : TypeId × Value → H) :
    ReturnsInHanded {} Tryd.checked os 5 .any (fun w args => (Rows.parseJoinsSpec.pre enc Tryd.prog Tryd.f5 [] false w args ∧ laidMetH Tryd.prog Rows.parseJoinsRow.laid w) ∧ sizedMet enc Tryd.prog Tryd.f5 (OpenSpec.ofChange Rows.parseJoinsSpec) false w args) (Rows.parseJoinsSpec.post enc Tryd.prog Tryd.f5 false true false false) := by
  refine returns_both (C := Tryd.checked) (X := fun w _ => laidMetH Tryd.prog Rows.parseJoinsRow.laid w) (fun _ _ _ hh h => h.of_heap hh) own started (by kernel_rfl) Tryd.func5
    (ChangeSpec.witness_shaped (enc := enc) (C := Tryd.checked) (os := os) (X := fun w _ => laidMetH Tryd.prog Rows.parseJoinsRow.laid w) false (World.doorLaid Tryd.prog 400 os) #[.string ByteArray.empty, .string ByteArray.empty] 8 rfl (World.shaped_of_RefB (by kernel_rfl) (by kernel_rfl)) (by kernel_rfl) (by kernel_rfl) (by kernel_rfl) (door_met os _)) ?_
  intro W base args ds gs before hval0 hW _ hsz0 hL hsh _
  have hval : ∀ (j : Nat) t v, Tryd.f5.params[j]? = some t → args[j]? = some v → Value.okWide Tryd.prog W .any base t v := hval0
  have hW' := hW
  obtain ⟨p, q, hA0, hV, rfl, hfz, hnd⟩ := hW
  have hA : DataW.TrodAll enc Tryd.prog W 0 (fun _ => true) true Tryd.f5.params.toList args.toList ds p := hA0
  rw [Tryd.params5] at hA hval
  obtain ⟨v0, vs0, d0, ds0, p0, q0, hargs, rfl, rfl, h0, r0⟩ := trodAll_cons hA
  obtain ⟨v1, vs1, d1, ds1, p1, q1, rfl, rfl, rfl, h1, r1⟩ := trodAll_cons r0
  obtain ⟨rfl, rfl, rfl⟩ := trodAll_nil r1
  obtain rfl : args = #[v0, v1] := by cases args; simp_all
  obtain ⟨rfl, rfl⟩ := trodVars_none hV
  have lt0 : ∀ x ∈ p0, x.block < W.heap.size := by obtain ⟨m, hm⟩ := h0; exact DataW.trod_lt m _ _ _ hm
  obtain ⟨x0, w0, u0⟩ := open_arg (n := 20) (ty := .str) (ρ := fun _ => .unborn) (by kernel_rfl) (hval 0 9 v0 rfl rfl) h0
  have lt1 : ∀ x ∈ p1, x.block < W.heap.size := by obtain ⟨m, hm⟩ := h1; exact DataW.trod_lt m _ _ _ hm
  obtain ⟨x1, w1, u1⟩ := open_arg (n := 20) (ty := .str) (ρ := fun _ => .unborn) (by kernel_rfl) (hval 1 9 v1 rfl rfl) h1
  have z0 : x0.size ≤ 140737488355328 := by
    obtain ⟨s, e, de, _⟩ := Go.ChangeMaps.open_string Tryd.underlying9 (hval 0 9 v0 rfl rfl) h0
    have e2 : v0 = .string x0 := u0
    have e3 : s = x0 := by rw [e] at e2; exact Value.string.inj e2
    subst e3
    have := sized_string hsz0 (j := 0) (t := 9) (bytes := s.data.toList) (by kernel_rfl) (by rw [de]; rfl)
    have h2 : s.size = s.data.toList.length := Go.Lib.size_eq s
    have h3 := reachBytes_lt
    omega
  have z1 : x1.size ≤ 140737488355328 := by
    obtain ⟨s, e, de, _⟩ := Go.ChangeMaps.open_string Tryd.underlying9 (hval 1 9 v1 rfl rfl) h1
    have e2 : v1 = .string x1 := u1
    have e3 : s = x1 := by rw [e] at e2; exact Value.string.inj e2
    subst e3
    have := sized_string hsz0 (j := 1) (t := 9) (bytes := s.data.toList) (by kernel_rfl) (by rw [de]; rfl)
    have h2 : s.size = s.data.toList.length := Go.Lib.size_eq s
    have h3 := reachBytes_lt
    omega
  have hc := (bautalaw10_ParseJoins_ok 100002).2 (x0, x1, ()) true (parseJoins_law x0 w0 z0 x1 w1 z1)
  refine (call_law (by kernel_rfl) hc (gl_of hL hsh) (vals := [v0, v1]) (VRs_cons.2 ⟨v0, _, rfl, u0, VRs_cons.2 ⟨v1, _, rfl, u1, VRs_nil.2 rfl⟩⟩)).mono fun e W' ⟨he, bel⟩ => ?_
  subst he
  exact ⟨_, rfl, _, _, _, [], _, [], hW', trodAll_mk1 (shut_bool Tryd.underlying4 _), (trodAll_cons_mk (Below.trod laidOut (by kernel_rfl) (of_decide_eq_true (by kernel_rfl)) h0 bel lt0) (trodAll_cons_mk (Below.trod laidOut (by kernel_rfl) (of_decide_eq_true (by kernel_rfl)) h1 bel lt1) trodAll_mk0)), rfl, bel.frame _, fun h => by cases h⟩
theorem over : Rows.parseJoinsRow.holds Tryd.pinned (OpenSpec.ofChange Rows.parseJoinsSpec) :=
  OpenClaim.holds_of_wide 5 Tryd.f5 rfl rfl rfl rfl rfl rfl rfl ⟨rfl, rfl, rfl, rfl, rfl⟩ rfl rfl rfl rfl rfl (by kernel_rfl) Tryd.func5 (by kernel_rfl)
    (of_decide_eq_true (by kernel_rfl)) (by unfold Func.isWrapper; first | (rw [if_pos (by decide +kernel)]; kernel_rfl) | (rw [if_neg (by decide +kernel)]; exact ⟨rfl, rfl⟩))
    (fun os started H enc _ => lifted os started H enc)
/-- The tied card. -/
theorem card : Rows.ParseJoinsCardSaid :=
  Claim7.holds_tied_plain_at .later [] [.widerDeep] true (true, "5e8058a92782fa5b50d5cc82d77648ee59b6150b287e0f53e0461d477b677122") true
    over (fun _ h => by cases h) (by kernel_rfl) (fun _ h => by cases h) parseJoins_row_tie rfl ⟨rfl, rfl⟩ (by kernel_rfl) rfl
    (fun f fn hf hfn => by
      obtain rfl : f = 5 := Option.some.inj ((show Tryd.prog.funcNamed "bauta/bautalaw10.ParseJoins" = some 5 by kernel_rfl).symm.trans hf) |>.symm
      obtain rfl : fn = Tryd.f5 := (Option.some.inj (Tryd.func5.symm.trans hfn)).symm
      exact ⟨by kernel_rfl, fun j t ht => by
        rw [Tryd.params5] at ht
        have hm : t ∈ [9, 9] := by simpa using Array.mem_of_getElem? ht
        have hall : ([9, 9].all fun u => !Tryd.prog.wantsStandIn u) = true := by kernel_rfl
        exact (show Tryd.prog.wantsStandIn t = false by simpa using List.all_eq_true.1 hall t hm)⟩)
    (by kernel_rfl)
#print axioms card
end Go.Proofs.YtfbnofpfinenkaaDoor.parseJoins
namespace Go.Proofs.YtfbnofpfinenkaaDoor
/-- The card, under a short name, for the claim. -/
theorem parseJoins_holds : Rows.ParseJoinsCardSaid := parseJoins.card
end Go.Proofs.YtfbnofpfinenkaaDoor
