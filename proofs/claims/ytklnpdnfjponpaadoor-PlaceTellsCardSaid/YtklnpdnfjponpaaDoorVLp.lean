/- That the library's functions hand that back: out of the kit's contracts. -/
import Derived.Test.YtklnpdnfjponpaaDoorVL
import Derived.Test.YtklnpdnfjponpaaDoorVS
namespace Go.Proofs.YtklnpdnfjponpaaDoorV
open Go.RowKit
set_option linter.unusedVariables false

/-- A value that lies nowhere. -/
def valA : AV → Option Value
  | .int k n => some (.int k n)
  | .bool b => some (.bool b)
  | .str s => some (.string s)
  | _ => none
def valsA : List AV → Option (List Value)
  | [] => some []
  | x :: l => match valA x, valsA l with
    | some v, some r => some (v :: r)
    | _, _ => none
def valR : AV → Option Value
  | .tup l => (valsA l).map fun l => .tuple l.toArray
  | x => valA x

theorem valA_of {w Im ρ} {x : AV} {u v : Value} (h : valA x = some v) (hr : VR w Im ρ x u) : u = v := by
  cases x <;> simp only [valA, Option.some.injEq, reduceCtorEq] at h <;> subst h <;> exact hr
theorem valsA_of {w Im ρ} : ∀ {l : List AV} {us vs : List Value}, valsA l = some vs → VRs w Im ρ l us → us = vs
  | [], us, vs, h, hr => by
    simp only [valsA, Option.some.injEq] at h
    subst h
    exact VRs_nil.1 hr
  | x :: l, us, vs, h, hr => by
    obtain ⟨u, r, rfl, h1, h2⟩ := VRs_cons.1 hr
    simp only [valsA] at h
    split at h
    · rename_i v r' hv hr'
      cases h
      rw [valA_of hv h1, valsA_of hr' h2]
    · cases h
theorem valA_to {w Im ρ} {x : AV} {v : Value} (h : valA x = some v) : VR w Im ρ x v := by
  cases x <;> simp only [valA, Option.some.injEq, reduceCtorEq] at h <;> subst h <;> simp only [VR]
theorem valsA_to {w Im ρ} : ∀ {l : List AV} {vs : List Value}, valsA l = some vs → VRs w Im ρ l vs
  | [], vs, h => by
    simp only [valsA, Option.some.injEq] at h
    subst h
    exact VRs_nil.2 rfl
  | x :: l, vs, h => by
    simp only [valsA] at h
    split at h
    · rename_i v r' hv hr'
      cases h
      exact VRs_cons.2 ⟨_, _, rfl, valA_to hv, valsA_to hr'⟩
    · cases h
theorem valR_to {w Im ρ} {x : AV} {v : Value} (h : valR x = some v) : VR w Im ρ x v := by
  unfold valR at h
  split at h
  · simp only [Option.map_eq_some_iff] at h
    obtain ⟨l, h1, rfl⟩ := h
    simp only [VR]
    exact ⟨_, rfl, valsA_to h1⟩
  · exact valA_to h

/-- A library function's contract. -/
theorem lib_ok {P : Program} {f : FuncId} {as' : List AV} {vs : List Value} {res : AV} {v : Value} (ha : valsA as' = some vs) (hr : valR res = some v)
    (h : ∀ W, GW W → Calls P f vs.toArray W fun e W' => e = .returned v ∧ Below W.heap.size W W') : CallOK P f as' [] res [] := by
  intro w Im ρ vals hrs hv hu
  obtain rfl := valsA_of ha hv
  refine (h w hrs.gd.gw).mono ?_
  rintro e w' ⟨rfl, bel⟩
  have hno : ∀ b, ¬ ownB ρ b := by
    rintro b ⟨r, n, q, e⟩
    rw [hu r (Nat.zero_le _)] at e
    cases e
  have hk : Kp (ownB ρ) w w' := ⟨bel.os, bel.tape, bel.output, bel.size, fun b hb _ => bel.block b hb⟩
  refine ⟨v, Im, ρ, rfl, ?_, valR_to hr, hk, fun _ h => h, fun _ h => .inl h, fun b hb => absurd hb (hno b), fun q hq => absurd hq (Nat.not_lt_zero _)⟩
  exact ⟨(fun r x hx => by cases hx), hrs.gone, hrs.inj, hrs.noim, fun b hb => Nat.lt_of_lt_of_le (hrs.imlt b hb) bel.size, hrs.gd_keep hk⟩

theorem strings_IndexByte_c {N : Nat} {s : ByteArray} {c y : Int} {W : World} (_ : GW W) (h : strings_IndexByte N s c = some y) :
    Calls Tryd.prog (lays137_ren.f 137) #[.string s, .int .u8 c] W fun e W' => e = .returned (.int .i64 y) ∧ Below W.heap.size W W' := by
  cases h
  exact (Any.strings_IndexByte lays137 s c W).mono fun e w' ⟨he, hw⟩ => ⟨he, hw ▸ Below.refl _ _⟩

theorem strings_LastIndexByte_c {N : Nat} {s : ByteArray} {c y : Int} {W : World} (_ : GW W) (h : strings_LastIndexByte N s c = some y) :
    Calls Tryd.prog (lays149_ren.f 149) #[.string s, .int .u8 c] W fun e W' => e = .returned (.int .i64 y) ∧ Below W.heap.size W W' := by
  unfold strings_LastIndexByte at h
  split at h
  · rename_i hs
    cases h
    exact (Any.strings_LastIndexByte lays149 s c hs W).mono fun e w' ⟨he, hw⟩ => ⟨he, hw ▸ Below.refl _ _⟩
  · cases h

theorem strings_Count_c {N : Nat} {s x : ByteArray} {y : Int} {W : World} (_ : GW W) (h : strings_Count N s x = some y) :
    Calls Tryd.prog (lays138_ren.f 138) #[.string s, .string x] W fun e W' => e = .returned (.int .i64 y) ∧ Below W.heap.size W W' := by
  unfold strings_Count at h
  split at h
  · rename_i c hc
    cases h
    obtain ⟨⟨l⟩⟩ := x
    simp only at hc
    subst hc
    exact (Any.strings_Count_one lays138 s c W).mono fun e w' ⟨he, hw⟩ => ⟨he, hw ▸ Below.refl _ _⟩
  · cases h

theorem extra105 : Builder.Extra Tryd.prog lays105_ren where
  sizeBuilder := by kernel_rfl
  liesBuilder := by kernel_rfl
  t5 := lays105.t5
  a5 := lays105.a5
  z5 := lays105.z5
  v5 := lays105.v5
  infoByte := by kernel_rfl
  cellsByte := by kernel_rfl
  sizeByte := by kernel_rfl
  neB5 := by decide

theorem strings_Repeat_c {N : Nat} {s : ByteArray} {c : Int} {y : ByteArray} {W : World} (_ : GW W) (h : strings_Repeat N s c = some y) :
    Calls Tryd.prog (lays105_ren.f 105) #[.string s, .int .i64 c] W fun e W' => e = .returned (.string y) ∧ Below W.heap.size W W' := by
  unfold strings_Repeat at h
  split at h
  · rename_i hs
    cases h
    obtain ⟨n, rfl⟩ := Int.eq_ofNat_of_zero_le hs.1
    exact Any.strings_Repeat lays105 extra105 s n W (by omega) (by simpa using hs.2.2)
  · cases h

theorem tab_of {W : World} (g : GW W) : Lib.TabIs Tryd.prog W "internal/strconv.uint64pow10" .u64 Lib.pow10Tab := by
  unfold Lib.TabIs World.var?
  have hg : Tryd.prog.globalNamed "internal/strconv.uint64pow10" = some 1 := by kernel_rfl
  rw [hg]
  exact g

theorem grow_below {B : Nat} {w : World} {k : Nat} {os : Array Obj} (hB : B ≤ w.heap.size) : Below B w (Sort.grow (w.drewN k) os) :=
  ⟨rfl, rfl, rfl, by simp [Sort.grow, World.drewN], fun b hb => by simp only [Sort.grow, World.drewN]; rw [Array.getElem?_append_left (by omega)]⟩

theorem strconv_Itoa_c {N : Nat} {n : Int} {y : ByteArray} {W : World} (g : GW W) (h : strconv_Itoa N n = some y) :
    Calls Tryd.prog (laysm171_ren.f 171) #[.int .i64 n] W fun e W' => e = .returned (.string y) ∧ Below W.heap.size W W' := by
  unfold strconv_Itoa at h
  split at h
  · rename_i hs
    cases h
    exact (Any.strconv_Itoa laysm171 n hs.1 hs.2 W (tab_of g)).mono fun e w' ⟨he, k, os, hw⟩ => ⟨he, hw ▸ grow_below (Nat.le_refl _)⟩
  · cases h
end Go.Proofs.YtklnpdnfjponpaaDoorV
