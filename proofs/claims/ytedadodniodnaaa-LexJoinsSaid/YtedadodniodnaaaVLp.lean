/- That the library's functions hand that back: out of the kit's contracts. -/
import Derived.Test.YtedadodniodnaaaVL
import Derived.Test.YtedadodniodnaaaVS
namespace Go.Proofs.YtedadodniodnaaaV
open Go.RowKit
set_option linter.unusedVariables false

/-- A value that lies nowhere. -/
def valA : AV → Option Value
  | .int k n => some (.int k n)
  | .bool b => some (.bool b)
  | .str s => some (.string s)
  | _ => none
def valsA : List AV → Option (List Value)
  | [] => some []
  | x :: l => match valA x, valsA l with
    | some v, some r => some (v :: r)
    | _, _ => none
def valR : AV → Option Value
  | .tup l => (valsA l).map fun l => .tuple l.toArray
  | x => valA x

theorem valA_of {w Im ρ} {x : AV} {u v : Value} (h : valA x = some v) (hr : VR w Im ρ x u) : u = v := by
  cases x <;> simp only [valA, Option.some.injEq, reduceCtorEq] at h <;> subst h <;> exact hr
theorem valsA_of {w Im ρ} : ∀ {l : List AV} {us vs : List Value}, valsA l = some vs → VRs w Im ρ l us → us = vs
  | [], us, vs, h, hr => by
    simp only [valsA, Option.some.injEq] at h
    subst h
    exact VRs_nil.1 hr
  | x :: l, us, vs, h, hr => by
    obtain ⟨u, r, rfl, h1, h2⟩ := VRs_cons.1 hr
    simp only [valsA] at h
    split at h
    · rename_i v r' hv hr'
      cases h
      rw [valA_of hv h1, valsA_of hr' h2]
    · cases h
theorem valA_to {w Im ρ} {x : AV} {v : Value} (h : valA x = some v) : VR w Im ρ x v := by
  cases x <;> simp only [valA, Option.some.injEq, reduceCtorEq] at h <;> subst h <;> simp only [VR]
theorem valsA_to {w Im ρ} : ∀ {l : List AV} {vs : List Value}, valsA l = some vs → VRs w Im ρ l vs
  | [], vs, h => by
    simp only [valsA, Option.some.injEq] at h
    subst h
    exact VRs_nil.2 rfl
  | x :: l, vs, h => by
    simp only [valsA] at h
    split at h
    · rename_i v r' hv hr'
      cases h
      exact VRs_cons.2 ⟨_, _, rfl, valA_to hv, valsA_to hr'⟩
    · cases h
theorem valR_to {w Im ρ} {x : AV} {v : Value} (h : valR x = some v) : VR w Im ρ x v := by
  unfold valR at h
  split at h
  · simp only [Option.map_eq_some_iff] at h
    obtain ⟨l, h1, rfl⟩ := h
    simp only [VR]
    exact ⟨_, rfl, valsA_to h1⟩
  · exact valA_to h

/-- A library function's contract. -/
theorem lib_ok {P : Program} {f : FuncId} (hfb : fnB f = true) {avs : List AV} {vs : List Value} {res : AV} {v : Value} (ha : valsA avs = some vs) (hr : valR res = some v)
    (h : ∀ W, GW W → Calls P f vs.toArray W fun e W' => e = .returned v ∧ Below W.heap.size W W') : CallOK P f 0 avs [] false res [] := by
  intro w Im ρ vals hrs hv hu
  obtain rfl := valsA_of ha hv
  unfold Goes
  rw [hfb]
  refine (h w hrs.gd.gw).mono ?_
  rintro e w' ⟨rfl, bel⟩
  have hno : ∀ b, ¬ ownB ρ b := by
    rintro b ⟨r, n, q, e⟩
    rw [hu r (Nat.zero_le _)] at e
    cases e
  have hk : Kp (ownB ρ) w w' := ⟨bel.os, bel.tape, bel.output, bel.size, fun b hb _ => bel.block b hb⟩
  refine ⟨v, Im, ρ, rfl, ?_, valR_to hr, hk, fun _ h => h, fun _ h => .inl h, fun b hb => absurd hb (hno b), fun q hq => absurd hq (Nat.not_lt_zero _)⟩
  exact ⟨(fun r x hx => by cases hx), hrs.gone, hrs.inj, hrs.noim, fun b hb => Nat.lt_of_lt_of_le (hrs.imlt b hb) bel.size, hrs.gd_keep hk⟩

theorem strings_Contains_c {N : Nat} {s x : ByteArray} {y : Bool} {W : World} (g : GW W) (h : strings_Contains N s x = some y) :
    Calls Try.prog (laysm144_ren.f 144) #[.string s, .string x] W fun e W' => e = .returned (.bool y) ∧ Below W.heap.size W W' := by
  unfold strings_Contains at h
  split at h
  · rename_i hs
    cases h
    rcases hs with hs | hs
    · obtain ⟨m, hm⟩ := maxLen_of g
      exact (Any.strings_Contains { laysm144 with } s x m W hs hm).mono fun e w' ⟨he, hw⟩ => ⟨he, hw ▸ Below.refl _ _⟩
    · obtain ⟨c, hc⟩ := List.length_eq_one_iff.1 hs
      obtain rfl : x = ⟨#[c]⟩ := by
        obtain ⟨⟨l⟩⟩ := x
        simp only at hc
        rw [hc]
      refine (Any.strings_Contains_one { laysm144 with } s c W).mono fun e w' ⟨he, hw⟩ => ⟨?_, hw ▸ Below.refl _ _⟩
      rw [he]
      show _ = Ending.returned (.bool (Lib.contains s.data.toList [c]))
      rw [Lib.contains, Lib.index_one]
  · cases h

theorem strings_IndexByte_c {N : Nat} {s : ByteArray} {c y : Int} {W : World} (_ : GW W) (h : strings_IndexByte N s c = some y) :
    Calls Try.prog (lays137_ren.f 137) #[.string s, .int .u8 c] W fun e W' => e = .returned (.int .i64 y) ∧ Below W.heap.size W W' := by
  cases h
  exact (Any.strings_IndexByte lays137 s c W).mono fun e w' ⟨he, hw⟩ => ⟨he, hw ▸ Below.refl _ _⟩

theorem strings_Builder_copyCheck_c {mm : Nat} {e : TypeId} {l : List AV} {m : Rows} (he : e = lays240_ren.t 72) (hl : look m 0 = some ⟨e, 2, .cells (.oref .opt 0 :: l)⟩) :
    CallOK Try.prog (lays240_ren.f 240) mm [.ptr 0 0 2 0] m false (.tup []) m := by
  subst he
  intro w Im ρ vals hrs hv hu
  obtain ⟨v, rfl, hv1⟩ := VRs_one.1 hv
  obtain ⟨hsz, hok, hrow⟩ := hrs.row _ _ hl
  have hX : Builder.X72 Try.prog lays240_ren := ⟨by kernel_rfl, by kernel_rfl⟩
  have hfb : fnB (lays240_ren.f 240) = true := by kernel_rfl
  simp only [VR] at hv1
  cases hρ : ρ 0 with
  | unborn => rw [hρ] at hrow; exact hrow.elim
  | gone => rw [hρ] at hrow; exact hrow.elim
  | virt => rw [hρ] at hv1; exact hv1.elim
  | blk g n cap =>
    rw [hρ] at hv1 hrow
    obtain ⟨rfl, hn⟩ := hv1
    obtain ⟨cur, fr, hh, hnf, hcnt, hcap, hmax, hcs, hcells⟩ := hrow
    have hcells0 := hcells
    simp only [RC.flat] at hcells
    obtain ⟨v0, rest, hcur, hv0, hrest⟩ := VRs_cons.1 hcells
    simp only [VR, hρ, RK.is] at hv0
    obtain ⟨rfl, rfl, hv0⟩ := hv0
    have hsize : cur.size = 2 := by simpa using hcs
    have hall : cur.toList = v0 :: rest := by
      rw [← hcur, List.take_of_length_le (by simp [hsize])]
    have hcell : w.cell? ⟨g, 0, none⟩ = some v0 := by
      have : cur[0]? = some v0 := by rw [← Array.getElem?_toList, hall]; rfl
      simp [World.cell?, hh, this]
    unfold Goes
    rw [hfb]
    have hE0 : Kp (ownB ρ) w w := Kp.refl _ _
    rcases hv0 with rfl | rfl
    · have hsh : w.shape? g = some (lays240_ren.t 72, 2) := by simp [World.shape?, hh, hsize]
      have hfz : w.frozen? ⟨g, 0, none⟩ = false := by
        have := hnf 0 (by omega)
        obtain ⟨lo, hi⟩ := fr
        simp only [World.frozen?, hh]
        simpa using this
      refine (Any.Builder_copyCheck_fresh lays240 hX g w hcell hsh hfz).mono ?_
      rintro e w' ⟨rfl, rfl⟩
      rw [setCell_eq_setRow w g 0 cur _ fr _ hh]
      have hset : (cur.setIfInBounds 0 (.pointer (some ⟨g, 0, none⟩))).toList = .pointer (some ⟨g, 0, none⟩) :: rest := by
        rw [Array.toList_setIfInBounds, hall]; rfl
      have hE := Eff.set (nb := 0) hrs hl hρ (w' := w.setRow g (cur.setIfInBounds 0 (.pointer (some ⟨g, 0, none⟩)))) (setRow_heap w g cur _ _ fr hh) (by simpa using hnf) (kp_setRow w g _) hsz hok hcnt hcap hmax (by simpa using hcs)
        (by
          rw [hset]
          rw [hall] at hcells0
          simp only [RC.flat] at hcells0 ⊢
          have h2 : rest.length = 1 := by
            have := congrArg List.length hall
            simp [hsize] at this
            omega
          rw [List.take_of_length_le (by simp [h2])] at hcells0 ⊢
          obtain ⟨_, _, e0, _, hr2⟩ := VRs_cons.1 hcells0
          cases e0
          refine VRs_cons.2 ⟨_, _, rfl, ?_, hr2⟩
          simp only [VR, hρ, RK.is]
          exact ⟨trivial, trivial, .inr trivial⟩)
      refine ⟨.tuple #[], Im, ρ, rfl, RS.look_eq hE.rs (fun r => ?_), ⟨_, rfl, VRs_nil.2 rfl⟩, hE.kp, fun _ h => h, fun _ h => .inl h, fun _ h => .inr h, fun _ _ => .inl rfl⟩
      rw [look_put]
      by_cases e0 : 0 = r
      · subst e0; rw [if_pos rfl, hl]
      · rw [if_neg e0]
    · refine (Any.Builder_copyCheck_used lays240 hX g w hcell).mono ?_
      rintro e w' ⟨rfl, rfl⟩
      exact ⟨.tuple #[], Im, ρ, rfl, hrs, ⟨_, rfl, VRs_nil.2 rfl⟩, hE0, fun _ h => h, fun _ h => .inl h, fun _ h => .inr h, fun _ _ => .inl rfl⟩

end Go.Proofs.YtedadodniodnaaaV
