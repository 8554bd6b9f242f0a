/- That the library's functions hand that back: out of the kit's contracts. -/
import Derived.Test.YtkcimijkcmoonaaDoorVL
import Derived.Test.YtkcimijkcmoonaaDoorVS
namespace Go.Proofs.YtkcimijkcmoonaaDoorV
open Go.RowKit
set_option linter.unusedVariables false

/-- A value that lies nowhere. -/
def valA : AV → Option Value
  | .int k n => some (.int k n)
  | .bool b => some (.bool b)
  | .str s => some (.string s)
  | _ => none
def valsA : List AV → Option (List Value)
  | [] => some []
  | x :: l => match valA x, valsA l with
    | some v, some r => some (v :: r)
    | _, _ => none
def valR : AV → Option Value
  | .tup l => (valsA l).map fun l => .tuple l.toArray
  | x => valA x

theorem valA_of {w Im ρ} {x : AV} {u v : Value} (h : valA x = some v) (hr : VR w Im ρ x u) : u = v := by
  cases x <;> simp only [valA, Option.some.injEq, reduceCtorEq] at h <;> subst h <;> exact hr
theorem valsA_of {w Im ρ} : ∀ {l : List AV} {us vs : List Value}, valsA l = some vs → VRs w Im ρ l us → us = vs
  | [], us, vs, h, hr => by
    simp only [valsA, Option.some.injEq] at h
    subst h
    exact VRs_nil.1 hr
  | x :: l, us, vs, h, hr => by
    obtain ⟨u, r, rfl, h1, h2⟩ := VRs_cons.1 hr
    simp only [valsA] at h
    split at h
    · rename_i v r' hv hr'
      cases h
      rw [valA_of hv h1, valsA_of hr' h2]
    · cases h
theorem valA_to {w Im ρ} {x : AV} {v : Value} (h : valA x = some v) : VR w Im ρ x v := by
  cases x <;> simp only [valA, Option.some.injEq, reduceCtorEq] at h <;> subst h <;> simp only [VR]
theorem valsA_to {w Im ρ} : ∀ {l : List AV} {vs : List Value}, valsA l = some vs → VRs w Im ρ l vs
  | [], vs, h => by
    simp only [valsA, Option.some.injEq] at h
    subst h
    exact VRs_nil.2 rfl
  | x :: l, vs, h => by
    simp only [valsA] at h
    split at h
    · rename_i v r' hv hr'
      cases h
      exact VRs_cons.2 ⟨_, _, rfl, valA_to hv, valsA_to hr'⟩
    · cases h
theorem valR_to {w Im ρ} {x : AV} {v : Value} (h : valR x = some v) : VR w Im ρ x v := by
  unfold valR at h
  split at h
  · simp only [Option.map_eq_some_iff] at h
    obtain ⟨l, h1, rfl⟩ := h
    simp only [VR]
    exact ⟨_, rfl, valsA_to h1⟩
  · exact valA_to h

/-- A library function's contract. -/
theorem lib_ok {P : Program} {f : FuncId} (hfb : fnB f = true) {avs : List AV} {vs : List Value} {res : AV} {v : Value} (ha : valsA avs = some vs) (hr : valR res = some v)
    (h : ∀ W, GW W → Calls P f vs.toArray W fun e W' => e = .returned v ∧ Below W.heap.size W W') : CallOK P f 0 avs [] false res [] := by
  intro w Im ρ vals hrs hv hu
  obtain rfl := valsA_of ha hv
  unfold Goes
  rw [hfb]
  refine (h w hrs.gd.gw).mono ?_
  rintro e w' ⟨rfl, bel⟩
  have hno : ∀ b, ¬ ownB ρ b := by
    rintro b ⟨r, n, q, e⟩
    rw [hu r (Nat.zero_le _)] at e
    cases e
  have hk : Kp (ownB ρ) w w' := ⟨bel.os, bel.tape, bel.output, bel.size, fun b hb _ => bel.block b hb⟩
  refine ⟨v, Im, ρ, rfl, ?_, valR_to hr, hk, fun _ h => h, fun _ h => .inl h, fun b hb => absurd hb (hno b), fun q hq => absurd hq (Nat.not_lt_zero _)⟩
  exact ⟨(fun r x hx => by cases hx), hrs.gone, hrs.inj, hrs.noim, fun b hb => Nat.lt_of_lt_of_le (hrs.imlt b hb) bel.size, hrs.gd_keep hk⟩

/-- The same where arguments lie in memory that stays as it is. -/
theorem lib_ok2 {P : Program} {f : FuncId} (hfb : fnB f = true) {avs : List AV} {res : AV} {v : Value} (hn : AV.refsL avs = []) (hr : valR res = some v)
    (h : ∀ W (Im : Nat → Prop) vs, GW W → (∀ b, Im b → b < W.heap.size) → VRs W Im (fun _ => .gone) avs vs → Calls P f vs.toArray W fun e W' => e = .returned v ∧ Below W.heap.size W W') : CallOK P f 0 avs [] false res [] := by
  intro w Im ρ vals hrs hv hu
  unfold Goes
  rw [hfb]
  refine (h w Im vals hrs.gd.gw hrs.imlt (VRs_noref _ _ hn hv)).mono ?_
  rintro e w' ⟨rfl, bel⟩
  have hno : ∀ b, ¬ ownB ρ b := by
    rintro b ⟨r, n, q, e⟩
    rw [hu r (Nat.zero_le _)] at e
    cases e
  have hk : Kp (ownB ρ) w w' := ⟨bel.os, bel.tape, bel.output, bel.size, fun b hb _ => bel.block b hb⟩
  refine ⟨v, Im, ρ, rfl, ?_, valR_to hr, hk, fun _ h => h, fun _ h => .inl h, fun b hb => absurd hb (hno b), fun q hq => absurd hq (Nat.not_lt_zero _)⟩
  exact ⟨(fun r x hx => by cases hx), hrs.gone, hrs.inj, hrs.noim, fun b hb => Nat.lt_of_lt_of_le (hrs.imlt b hb) bel.size, hrs.gd_keep hk⟩

theorem strings_Join_x : Builder.Extra Tryd.prog lays156_ren :=
  { (⟨by kernel_rfl, by kernel_rfl⟩ : Builder.X72 Tryd.prog lays156_ren) with
    t5 := Tryd.underlying5, a5 := Tryd.isAgg5, z5 := Tryd.sizeOf5, v5 := Tryd.zeroValue5, infoByte := by kernel_rfl, cellsByte := by kernel_rfl, sizeByte := by kernel_rfl, neB5 := by decide }
theorem strings_Join_c {N : Nat} {xs : List ByteArray} {s : ByteArray} {y : ByteArray} (h : strings_Join N xs s = some y) :
    CallOK Tryd.prog (lays156_ren.f 156) 0 [.imm .str xs, .str s] [] false (.str y) [] := by
  unfold strings_Join at h
  split at h
  · rename_i hs
    cases h
    refine lib_ok2 (by kernel_rfl) rfl rfl fun W Im vs gw hlt hv => ?_
    obtain ⟨v, r, rfl, h1, h2⟩ := VRs_cons.1 hv
    obtain ⟨u, rfl, hu⟩ := VRs_one.1 h2
    obtain rfl := hu
    obtain ⟨A, cap, e, hcap, hc⟩ := h1
    simp only [List.cons.injEq, and_true] at e
    subst e
    by_cases hne : xs = []
    · subst hne
      exact (Any.strings_Join_none lays156 strings_Join_x A cap s W).mono fun e w' ⟨he, hw⟩ => ⟨he, hw ▸ Below.refl _ _⟩
    · obtain ⟨a, rfl, him, hsp, hcells⟩ := hc hne
      obtain ⟨bk, o, sp⟩ := a
      obtain rfl : sp = none := hsp
      refine Any.strings_Join lays156 strings_Join_x bk o cap xs s W (fun j x hx => ?_) (hlt _ him) hs.1 hcap hs.2
      obtain ⟨hj, rfl⟩ := List.getElem?_eq_some_iff.1 hx
      obtain ⟨us, hu, hcell⟩ := hcells j hj
      simp only [IR] at hu
      subst hu
      have := hcell 0 _ rfl
      simp only [csz, Nat.mul_one, Nat.add_zero] at this
      have e : (⟨bk, o, none⟩ : Addr).add j = ⟨bk, o + j, none⟩ := by
        unfold Addr.add
        by_cases h0 : j = 0
        · subst h0; simp
        · simp [h0]
      rw [e] at this
      exact this
  · cases h
theorem tab_of {W : World} (g : GW W) : Lib.TabIs Tryd.prog W "internal/strconv.uint64pow10" .u64 Lib.pow10Tab := by
  unfold Lib.TabIs World.var?
  have hg : Tryd.prog.globalNamed "internal/strconv.uint64pow10" = some 7 := by kernel_rfl
  rw [hg]
  first
  | exact g
  | (obtain ⟨-, l, z, h⟩ := gt_of g (gtLook_mem (g := 7) (t := .ints .u64 Lib.pow10Tab) (by kernel_rfl))
     simp only [Option.bind_some]
     rw [h]
     rfl)

theorem grow_below {B : Nat} {w : World} {k : Nat} {os : Array Obj} (hB : B ≤ w.heap.size) : Below B w (Sort.grow (w.drewN k) os) :=
  ⟨rfl, rfl, rfl, by simp [Sort.grow, World.drewN], fun b hb => by simp only [Sort.grow, World.drewN]; rw [Array.getElem?_append_left (by omega)]⟩

theorem strconv_Itoa_c {N : Nat} {n : Int} {y : ByteArray} {W : World} (g : GW W) (h : strconv_Itoa N n = some y) :
    Calls Tryd.prog (laysm171_ren.f 171) #[.int .i64 n] W fun e W' => e = .returned (.string y) ∧ Below W.heap.size W W' := by
  unfold strconv_Itoa at h
  split at h
  · rename_i hs
    cases h
    exact (Any.strconv_Itoa laysm171 n hs.1 hs.2 W (tab_of g)).mono fun e w' ⟨he, k, os, hw⟩ => ⟨he, hw ▸ grow_below (Nat.le_refl _)⟩
  · cases h
end Go.Proofs.YtkcimijkcmoonaaDoorV
