/- The row of AnfTables (printed by wip/rowgen.py). -/
import Derived.Test.YtkcimijkcmoonaaDoorRows
import Derived.Test.YtkcimijkcmoonaaDoorAnfp
import Derived.Test.YtkcimijkcmoonaaDoorPAnfG
import Derived.Test.YtkcimijkcmoonaaDoorWc
import Derived.Test.YtkcimijkcmoonaaDoorCards
import Derived.Test.YtkcimijkcmoonaaDoorTie
import Derived.Test.YtkcimijkcmoonaaDoorVS
import Derived.Test.YtkcimijkcmoonaaDoorWb
import Derived.SevenTiedAt
import Derived.LaidMore
import Derived.LaidHandle
import Derived.Stop.LaidErr
import Derived.WalkKit
import Derived.ProofKit
import Derived.OpenShut
import Derived.ShutString
import Derived.ChangeOld
import Derived.Below
import Derived.SizedLaws
namespace Go.Proofs.YtkcimijkcmoonaaDoor.anfTables
open Go.ChangeShapes Go.WideShapes Go.ChangeAt Go.RowKit Go.Proofs.YtkcimijkcmoonaaDoorV
set_option linter.unusedVariables false
theorem own : ownKnob Tryd.prog.godebug = none := by kernel_rfl
theorem laidOut : laidOutB Tryd.prog = true := by kernel_rfl
/-- What the row's condition and the world's shape give: the tables; some number. -/
theorem gl_of {W : World} (h : laidMetH Tryd.prog Rows.anfTablesRow.laid W) (hsh : W.ShapedOpen Tryd.prog) : GL W := by
  rw [MakeChecks.laidMetH_plain _ _ _ (by kernel_rfl)] at h
  have h1 : laidMet Tryd.prog [("math/bits.deBruijn32tab", Rows.laid_math_bits_deBruijn32tab), ("math/bits.deBruijn64tab", Rows.laid_math_bits_deBruijn64tab), ("internal/strconv.uint64pow10", Rows.laid_internal_strconv_uint64pow10)] W := h
  have h2 := h1.tail
  have h3 := h2.tail
  have t7 := tab_of_laid (n := 5) (g := 7) (t := 222) (vs := ((gtLook GT 7).map GTab.vals).getD []) (by kernel_rfl) (by kernel_rfl) (by kernel_rfl) (by kernel_rfl) h3
  have tabs : ∀ p ∈ GT, ∃ l z, W.heap[p.1]? = some (.cells p.2.vals.toArray l z) := by
    intro p hp
    simp only [GT, List.mem_cons, List.not_mem_nil, or_false] at hp
    rcases hp with rfl
    · exact t7
  refine ⟨fun b hb => ?_, ⟨tabs, fun g hg => by cases hg⟩⟩
  rcases List.mem_append.1 hb with hb | hb
  · obtain ⟨p, hp, rfl⟩ := List.mem_map.1 hb
    obtain ⟨l, z, h⟩ := tabs p hp
    exact (Array.getElem?_eq_some_iff.1 h).1
  · cases hb
theorem door_met (os : Os) (args : Array Value) : laidMetH Tryd.prog Rows.anfTablesRow.laid ((World.doorLaid Tryd.prog 400 os).forCall (fun _ _ => 0) ⟨#[], args, []⟩).memory :=
  laidMetH_of_parts3 (fuel := 8) (laidMet_of_run' 8 (by kernel_rfl) (by kernel_rfl)) (by kernel_rfl) (by kernel_rfl)
set_option maxRecDepth 100000 in
theorem lifted (os : Os) (started : os.Started) (H : Type) (enc : TypeId × Value → H) :
    ReturnsInHanded {} Tryd.checked os 5 .any (fun w args => (Rows.anfTablesSpec.pre enc Tryd.prog Tryd.f5 [] false w args ∧ laidMetH Tryd.prog Rows.anfTablesRow.laid w) ∧ sizedMet enc Tryd.prog Tryd.f5 (OpenSpec.ofChange Rows.anfTablesSpec) false w args) (Rows.anfTablesSpec.post enc Tryd.prog Tryd.f5 false true false false) := by
  refine returns_both (C := Tryd.checked) (X := fun w _ => laidMetH Tryd.prog Rows.anfTablesRow.laid w) (fun _ _ _ hh h => h.of_heap hh) own started (by kernel_rfl) Tryd.func5
    (ChangeSpec.witness_shaped (enc := enc) (C := Tryd.checked) (os := os) (X := fun w _ => laidMetH Tryd.prog Rows.anfTablesRow.laid w) false (World.doorLaid Tryd.prog 400 os) #[.slice none 0 0] 8 rfl (World.shaped_of_RefB (by kernel_rfl) (by kernel_rfl)) (by kernel_rfl) (by kernel_rfl) (by kernel_rfl) (door_met os _)) ?_
  intro W base args ds gs before hval0 hW _ hsz0 hL hsh _
  have hval : ∀ (j : Nat) t v, Tryd.f5.params[j]? = some t → args[j]? = some v → Value.okWide Tryd.prog W .any base t v := hval0
  have hW' := hW
  obtain ⟨p, q, hA0, hV, rfl, hfz, hnd⟩ := hW
  have hA : DataW.TrodAll enc Tryd.prog W 0 (fun _ => true) true Tryd.f5.params.toList args.toList ds p := hA0
  rw [Tryd.params5] at hA hval
  obtain ⟨v0, vs0, d0, ds0, p0, q0, hargs, rfl, rfl, h0, r0⟩ := trodAll_cons hA
  obtain ⟨rfl, rfl, rfl⟩ := trodAll_nil r0
  obtain rfl : args = #[v0] := by cases args; simp_all
  obtain ⟨rfl, rfl⟩ := trodVars_none hV
  have lt0 : ∀ x ∈ p0, x.block < W.heap.size := by obtain ⟨m, hm⟩ := h0; exact DataW.trod_lt m _ _ _ hm
  obtain ⟨x0, w0, u0⟩ := open_arg (n := 20) (ty := (.list .bool)) (ρ := fun _ => .unborn) (by kernel_rfl) (hval 0 34 v0 rfl rfl) h0
  have z0 : x0.length * 1 < 140737488355328 := by
    have := list_len (t := 34) (e := 4) Tryd.underlying34 u0 h0 hsz0 (j := 0) (by kernel_rfl) rfl
    have hb : Tryd.prog.bytesOf 4 = 1 := by kernel_rfl
    rw [hb] at this
    have h3 := reachBytes_lt
    omega
  have hc := (bautalaw34_AnfTables_ok 100002).2 (x0, ()) true (anfTables_law x0 w0 z0)
  refine (call_law (by kernel_rfl) hc (gl_of hL hsh) (vals := [v0]) (VRs_cons.2 ⟨v0, _, rfl, u0, VRs_nil.2 rfl⟩)).mono fun e W' ⟨he, bel⟩ => ?_
  subst he
  exact ⟨_, rfl, _, _, _, [], _, [], hW', trodAll_mk1 (shut_bool Tryd.underlying4 _), (trodAll_cons_mk (Below.trod laidOut (by kernel_rfl) (of_decide_eq_true (by kernel_rfl)) h0 bel lt0) trodAll_mk0), rfl, bel.frame _, fun h => by cases h⟩
theorem over : Rows.anfTablesRow.holds Tryd.pinned (OpenSpec.ofChange Rows.anfTablesSpec) :=
  OpenClaim.holds_of_wide 5 Tryd.f5 rfl rfl rfl rfl rfl rfl rfl ⟨rfl, rfl, rfl, rfl, rfl⟩ rfl rfl rfl rfl rfl (by kernel_rfl) Tryd.func5 (by kernel_rfl)
    (of_decide_eq_true (by kernel_rfl)) (by unfold Func.isWrapper; first | (rw [if_pos (by decide +kernel)]; kernel_rfl) | (rw [if_neg (by decide +kernel)]; exact ⟨rfl, rfl⟩))
    (fun os started H enc _ => lifted os started H enc)
/-- The tied card. -/
theorem card : Rows.AnfTablesCardSaid :=
  Claim7.holds_tied_plain_at .later [] [.data, .data, .data] true (true, "09240a2c98b5c5dfd5589d1be1ddcac9a069295e56348ff9b0fddd938fd93b58") true
    over (fun _ h => by cases h) (by kernel_rfl) (fun _ h => by cases h) anfTables_row_tie rfl ⟨rfl, rfl⟩ (by kernel_rfl) rfl
    (fun f fn hf hfn => by
      obtain rfl : f = 5 := Option.some.inj ((show Tryd.prog.funcNamed "bauta/bautalaw34.AnfTables" = some 5 by kernel_rfl).symm.trans hf) |>.symm
      obtain rfl : fn = Tryd.f5 := (Option.some.inj (Tryd.func5.symm.trans hfn)).symm
      exact ⟨by kernel_rfl, fun j t ht => by
        rw [Tryd.params5] at ht
        have hm : t ∈ [34] := by simpa using Array.mem_of_getElem? ht
        have hall : ([34].all fun u => !Tryd.prog.wantsStandIn u) = true := by kernel_rfl
        exact (show Tryd.prog.wantsStandIn t = false by simpa using List.all_eq_true.1 hall t hm)⟩)
    (by kernel_rfl)
#print axioms card
end Go.Proofs.YtkcimijkcmoonaaDoor.anfTables
namespace Go.Proofs.YtkcimijkcmoonaaDoor
/-- The card, under a short name, for the claim. -/
theorem anfTables_holds : Rows.AnfTablesCardSaid := anfTables.card
end Go.Proofs.YtkcimijkcmoonaaDoor
