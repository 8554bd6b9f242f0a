/- That the library's functions hand that back: out of the kit's contracts. -/
import Derived.Test.YtgajjcehnpaooaaGreatDoorVL
import Derived.Test.YtgajjcehnpaooaaGreatDoorVS
namespace Go.Proofs.YtgajjcehnpaooaaGreatDoorV
open Go.RowKit
set_option linter.unusedVariables false

/-- A value that lies nowhere. -/
def valA : AV → Option Value
  | .int k n => some (.int k n)
  | .bool b => some (.bool b)
  | .str s => some (.string s)
  | _ => none
def valsA : List AV → Option (List Value)
  | [] => some []
  | x :: l => match valA x, valsA l with
    | some v, some r => some (v :: r)
    | _, _ => none
def valR : AV → Option Value
  | .tup l => (valsA l).map fun l => .tuple l.toArray
  | x => valA x

theorem valA_of {w Im ρ} {x : AV} {u v : Value} (h : valA x = some v) (hr : VR w Im ρ x u) : u = v := by
  cases x <;> simp only [valA, Option.some.injEq, reduceCtorEq] at h <;> subst h <;> exact hr
theorem valsA_of {w Im ρ} : ∀ {l : List AV} {us vs : List Value}, valsA l = some vs → VRs w Im ρ l us → us = vs
  | [], us, vs, h, hr => by
    simp only [valsA, Option.some.injEq] at h
    subst h
    exact VRs_nil.1 hr
  | x :: l, us, vs, h, hr => by
    obtain ⟨u, r, rfl, h1, h2⟩ := VRs_cons.1 hr
    simp only [valsA] at h
    split at h
    · rename_i v r' hv hr'
      cases h
      rw [valA_of hv h1, valsA_of hr' h2]
    · cases h
theorem valA_to {w Im ρ} {x : AV} {v : Value} (h : valA x = some v) : VR w Im ρ x v := by
  cases x <;> simp only [valA, Option.some.injEq, reduceCtorEq] at h <;> subst h <;> simp only [VR]
theorem valsA_to {w Im ρ} : ∀ {l : List AV} {vs : List Value}, valsA l = some vs → VRs w Im ρ l vs
  | [], vs, h => by
    simp only [valsA, Option.some.injEq] at h
    subst h
    exact VRs_nil.2 rfl
  | x :: l, vs, h => by
    simp only [valsA] at h
    split at h
    · rename_i v r' hv hr'
      cases h
      exact VRs_cons.2 ⟨_, _, rfl, valA_to hv, valsA_to hr'⟩
    · cases h
theorem valR_to {w Im ρ} {x : AV} {v : Value} (h : valR x = some v) : VR w Im ρ x v := by
  unfold valR at h
  split at h
  · simp only [Option.map_eq_some_iff] at h
    obtain ⟨l, h1, rfl⟩ := h
    simp only [VR]
    exact ⟨_, rfl, valsA_to h1⟩
  · exact valA_to h

/-- A library function's contract. -/
theorem lib_ok {P : Program} {f : FuncId} (hfb : fnB f = true) {avs : List AV} {vs : List Value} {res : AV} {v : Value} (ha : valsA avs = some vs) (hr : valR res = some v)
    (h : ∀ W, GW W → Calls P f vs.toArray W fun e W' => e = .returned v ∧ Below W.heap.size W W') : CallOK P f 0 avs [] false res [] := by
  intro w Im ρ vals hrs hv hu
  obtain rfl := valsA_of ha hv
  unfold Goes
  rw [hfb]
  refine (h w hrs.gd.gw).mono ?_
  rintro e w' ⟨rfl, bel⟩
  have hno : ∀ b, ¬ ownB ρ b := by
    rintro b ⟨r, n, q, e⟩
    rw [hu r (Nat.zero_le _)] at e
    cases e
  have hk : Kp (ownB ρ) w w' := ⟨bel.os, bel.tape, bel.output, bel.size, fun b hb _ => bel.block b hb⟩
  refine ⟨v, Im, ρ, rfl, ?_, valR_to hr, hk, fun _ h => h, fun _ h => .inl h, fun b hb => absurd hb (hno b), fun q hq => absurd hq (Nat.not_lt_zero _)⟩
  exact ⟨(fun r x hx => by cases hx), hrs.gone, hrs.inj, hrs.noim, fun b hb => Nat.lt_of_lt_of_le (hrs.imlt b hb) bel.size, hrs.gd_keep hk⟩

/-- The same where arguments lie in memory that stays as it is. -/
theorem lib_ok2 {P : Program} {f : FuncId} (hfb : fnB f = true) {avs : List AV} {res : AV} {v : Value} (hn : AV.refsL avs = []) (hr : valR res = some v)
    (h : ∀ W (Im : Nat → Prop) vs, GW W → (∀ b, Im b → b < W.heap.size) → VRs W Im (fun _ => .gone) avs vs → Calls P f vs.toArray W fun e W' => e = .returned v ∧ Below W.heap.size W W') : CallOK P f 0 avs [] false res [] := by
  intro w Im ρ vals hrs hv hu
  unfold Goes
  rw [hfb]
  refine (h w Im vals hrs.gd.gw hrs.imlt (VRs_noref _ _ hn hv)).mono ?_
  rintro e w' ⟨rfl, bel⟩
  have hno : ∀ b, ¬ ownB ρ b := by
    rintro b ⟨r, n, q, e⟩
    rw [hu r (Nat.zero_le _)] at e
    cases e
  have hk : Kp (ownB ρ) w w' := ⟨bel.os, bel.tape, bel.output, bel.size, fun b hb _ => bel.block b hb⟩
  refine ⟨v, Im, ρ, rfl, ?_, valR_to hr, hk, fun _ h => h, fun _ h => .inl h, fun b hb => absurd hb (hno b), fun q hq => absurd hq (Nat.not_lt_zero _)⟩
  exact ⟨(fun r x hx => by cases hx), hrs.gone, hrs.inj, hrs.noim, fun b hb => Nat.lt_of_lt_of_le (hrs.imlt b hb) bel.size, hrs.gd_keep hk⟩
theorem strings_Contains_c {N : Nat} {s x : ByteArray} {y : Bool} {W : World} (g : GW W) (h : strings_Contains N s x = some y) :
    Calls Tryz.prog (laysm144_ren.f 144) #[.string s, .string x] W fun e W' => e = .returned (.bool y) ∧ Below W.heap.size W W' := by
  unfold strings_Contains at h
  split at h
  · rename_i hs
    cases h
    rcases hs with hs | hs
    · obtain ⟨m, hm⟩ := maxLen_of g
      exact (Any.strings_Contains { laysm144 with } s x m W hs hm).mono fun e w' ⟨he, hw⟩ => ⟨he, hw ▸ Below.refl _ _⟩
    · obtain ⟨c, hc⟩ := List.length_eq_one_iff.1 hs
      obtain rfl : x = ⟨#[c]⟩ := by
        obtain ⟨⟨l⟩⟩ := x
        simp only at hc
        rw [hc]
      refine (Any.strings_Contains_one { laysm144 with } s c W).mono fun e w' ⟨he, hw⟩ => ⟨?_, hw ▸ Below.refl _ _⟩
      rw [he]
      show _ = Ending.returned (.bool (Lib.contains s.data.toList [c]))
      rw [Lib.contains, Lib.index_one]
  · cases h

theorem strings_IndexByte_c {N : Nat} {s : ByteArray} {c y : Int} {W : World} (_ : GW W) (h : strings_IndexByte N s c = some y) :
    Calls Tryz.prog (lays137_ren.f 137) #[.string s, .int .u8 c] W fun e W' => e = .returned (.int .i64 y) ∧ Below W.heap.size W W' := by
  cases h
  exact (Any.strings_IndexByte lays137 s c W).mono fun e w' ⟨he, hw⟩ => ⟨he, hw ▸ Below.refl _ _⟩

end Go.Proofs.YtgajjcehnpaooaaGreatDoorV
