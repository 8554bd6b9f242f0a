/- That the library's functions hand that back: out of the kit's contracts. -/
import Derived.Test.YtfogafinohfpfaaGreatDoorVL
import Derived.Test.YtfogafinohfpfaaGreatDoorVS
namespace Go.Proofs.YtfogafinohfpfaaGreatDoorV
open Go.RowKit
set_option linter.unusedVariables false

/-- A value that lies nowhere. -/
def valA : AV → Option Value
  | .int k n => some (.int k n)
  | .bool b => some (.bool b)
  | .str s => some (.string s)
  | _ => none
def valsA : List AV → Option (List Value)
  | [] => some []
  | x :: l => match valA x, valsA l with
    | some v, some r => some (v :: r)
    | _, _ => none
def valR : AV → Option Value
  | .tup l => (valsA l).map fun l => .tuple l.toArray
  | x => valA x

theorem valA_of {w Im ρ} {x : AV} {u v : Value} (h : valA x = some v) (hr : VR w Im ρ x u) : u = v := by
  cases x <;> simp only [valA, Option.some.injEq, reduceCtorEq] at h <;> subst h <;> exact hr
theorem valsA_of {w Im ρ} : ∀ {l : List AV} {us vs : List Value}, valsA l = some vs → VRs w Im ρ l us → us = vs
  | [], us, vs, h, hr => by
    simp only [valsA, Option.some.injEq] at h
    subst h
    exact VRs_nil.1 hr
  | x :: l, us, vs, h, hr => by
    obtain ⟨u, r, rfl, h1, h2⟩ := VRs_cons.1 hr
    simp only [valsA] at h
    split at h
    · rename_i v r' hv hr'
      cases h
      rw [valA_of hv h1, valsA_of hr' h2]
    · cases h
theorem valA_to {w Im ρ} {x : AV} {v : Value} (h : valA x = some v) : VR w Im ρ x v := by
  cases x <;> simp only [valA, Option.some.injEq, reduceCtorEq] at h <;> subst h <;> simp only [VR]
theorem valsA_to {w Im ρ} : ∀ {l : List AV} {vs : List Value}, valsA l = some vs → VRs w Im ρ l vs
  | [], vs, h => by
    simp only [valsA, Option.some.injEq] at h
    subst h
    exact VRs_nil.2 rfl
  | x :: l, vs, h => by
    simp only [valsA] at h
    split at h
    · rename_i v r' hv hr'
      cases h
      exact VRs_cons.2 ⟨_, _, rfl, valA_to hv, valsA_to hr'⟩
    · cases h
theorem valR_to {w Im ρ} {x : AV} {v : Value} (h : valR x = some v) : VR w Im ρ x v := by
  unfold valR at h
  split at h
  · simp only [Option.map_eq_some_iff] at h
    obtain ⟨l, h1, rfl⟩ := h
    simp only [VR]
    exact ⟨_, rfl, valsA_to h1⟩
  · exact valA_to h

/-- A library function's contract. -/
theorem lib_ok {P : Program} {f : FuncId} (hfb : fnB f = true) {avs : List AV} {vs : List Value} {res : AV} {v : Value} (ha : valsA avs = some vs) (hr : valR res = some v)
    (h : ∀ W, GW W → Calls P f vs.toArray W fun e W' => e = .returned v ∧ Below W.heap.size W W') : CallOK P f 0 avs [] false res [] := by
  intro w Im ρ vals hrs hv hu
  obtain rfl := valsA_of ha hv
  unfold Goes
  rw [hfb]
  refine (h w hrs.gd.gw).mono ?_
  rintro e w' ⟨rfl, bel⟩
  have hno : ∀ b, ¬ ownB ρ b := by
    rintro b ⟨r, n, q, e⟩
    rw [hu r (Nat.zero_le _)] at e
    cases e
  have hk : Kp (ownB ρ) w w' := ⟨bel.os, bel.tape, bel.output, bel.size, fun b hb _ => bel.block b hb⟩
  refine ⟨v, Im, ρ, rfl, ?_, valR_to hr, hk, fun _ h => h, fun _ h => .inl h, fun b hb => absurd hb (hno b), fun q hq => absurd hq (Nat.not_lt_zero _)⟩
  exact ⟨(fun r x hx => by cases hx), hrs.gone, hrs.inj, hrs.noim, fun b hb => Nat.lt_of_lt_of_le (hrs.imlt b hb) bel.size, hrs.gd_keep hk⟩

/-- The same where arguments lie in memory that stays as it is. -/
theorem lib_ok2 {P : Program} {f : FuncId} (hfb : fnB f = true) {avs : List AV} {res : AV} {v : Value} (hn : AV.refsL avs = []) (hr : valR res = some v)
    (h : ∀ W (Im : Nat → Prop) vs, GW W → (∀ b, Im b → b < W.heap.size) → VRs W Im (fun _ => .gone) avs vs → Calls P f vs.toArray W fun e W' => e = .returned v ∧ Below W.heap.size W W') : CallOK P f 0 avs [] false res [] := by
  intro w Im ρ vals hrs hv hu
  unfold Goes
  rw [hfb]
  refine (h w Im vals hrs.gd.gw hrs.imlt (VRs_noref _ _ hn hv)).mono ?_
  rintro e w' ⟨rfl, bel⟩
  have hno : ∀ b, ¬ ownB ρ b := by
    rintro b ⟨r, n, q, e⟩
    rw [hu r (Nat.zero_le _)] at e
    cases e
  have hk : Kp (ownB ρ) w w' := ⟨bel.os, bel.tape, bel.output, bel.size, fun b hb _ => bel.block b hb⟩
  refine ⟨v, Im, ρ, rfl, ?_, valR_to hr, hk, fun _ h => h, fun _ h => .inl h, fun b hb => absurd hb (hno b), fun q hq => absurd hq (Nat.not_lt_zero _)⟩
  exact ⟨(fun r x hx => by cases hx), hrs.gone, hrs.inj, hrs.noim, fun b hb => Nat.lt_of_lt_of_le (hrs.imlt b hb) bel.size, hrs.gd_keep hk⟩
theorem strings_Contains_c {N : Nat} {s x : ByteArray} {y : Bool} {W : World} (g : GW W) (h : strings_Contains N s x = some y) :
    Calls Tryz.prog (laysm144_ren.f 144) #[.string s, .string x] W fun e W' => e = .returned (.bool y) ∧ Below W.heap.size W W' := by
  unfold strings_Contains at h
  split at h
  · rename_i hs
    cases h
    rcases hs with hs | hs
    · obtain ⟨m, hm⟩ := maxLen_of g
      exact (Any.strings_Contains { laysm144 with } s x m W hs hm).mono fun e w' ⟨he, hw⟩ => ⟨he, hw ▸ Below.refl _ _⟩
    · obtain ⟨c, hc⟩ := List.length_eq_one_iff.1 hs
      obtain rfl : x = ⟨#[c]⟩ := by
        obtain ⟨⟨l⟩⟩ := x
        simp only at hc
        rw [hc]
      refine (Any.strings_Contains_one { laysm144 with } s c W).mono fun e w' ⟨he, hw⟩ => ⟨?_, hw ▸ Below.refl _ _⟩
      rw [he]
      show _ = Ending.returned (.bool (Lib.contains s.data.toList [c]))
      rw [Lib.contains, Lib.index_one]
  · cases h

theorem strings_IndexByte_c {N : Nat} {s : ByteArray} {c y : Int} {W : World} (_ : GW W) (h : strings_IndexByte N s c = some y) :
    Calls Tryz.prog (lays137_ren.f 137) #[.string s, .int .u8 c] W fun e W' => e = .returned (.int .i64 y) ∧ Below W.heap.size W W' := by
  cases h
  exact (Any.strings_IndexByte lays137 s c W).mono fun e w' ⟨he, hw⟩ => ⟨he, hw ▸ Below.refl _ _⟩

theorem flat_strs (w : World) (Im : Nat → Prop) (ρ : Nat → Loc) : ∀ (xs : List ByteArray) (us : List Value), VRs w Im ρ (xs.flatMap (enc .str)) us ↔ us = (xs.map (·.data.toList)).map Go.Proofs.encStr
  | [], us => VRs_nil
  | x :: xs, us => by
    show VRs w Im ρ (.str x :: xs.flatMap (enc .str)) us ↔ _
    rw [VRs_cons]
    constructor
    · rintro ⟨v, r, rfl, hv, hr⟩
      rw [(flat_strs w Im ρ xs r).1 hr]
      have : v = .string x := hv
      subst this
      simp [Go.Proofs.encStr]
    · intro h
      subst h
      exact ⟨.string x, _, by simp [Go.Proofs.encStr], rfl, (flat_strs w Im ρ xs _).2 rfl⟩
theorem sortB_len (xs : List ByteArray) : (sortB xs).length = xs.length := by simp [sortB]
theorem sortB_enc (xs : List ByteArray) : ((sortB xs).map (·.data.toList)) = (xs.map (·.data.toList)).mergeSort fun x y => decide (x ≤ y) := by simp [sortB, Function.comp_def]
theorem slices_Sort_c {mm : Nat} {e : TypeId} {xs : List ByteArray} (hlen : xs.length < 4611686018427387904) :
    CallOK Tryz.prog (lays190_ren.f 190) mm [.own 0 1] [(0, ⟨e, 1, .list .str xs⟩)] false (.tup []) [(0, ⟨e, 1, .list .str (sortB xs)⟩)] := by
  intro w Im ρ vals hrs hv hu
  obtain ⟨v, rfl, hv1⟩ := VRs_one.1 hv
  have hl : look [(0, (⟨e, 1, .list .str xs⟩ : Row))] 0 = some ⟨e, 1, .list .str xs⟩ := rfl
  obtain ⟨hsz, hok, hrow⟩ := hrs.row 0 _ hl
  have hfb : fnB (lays190_ren.f 190) = true := by kernel_rfl
  simp only [VR] at hv1
  unfold Goes
  rw [hfb]
  cases hρ : ρ 0 with
  | unborn => rw [hρ] at hrow; exact hrow.elim
  | gone => rw [hρ] at hrow; exact hrow.elim
  | virt =>
    rw [hρ] at hv1 hrow
    obtain ⟨A, rfl⟩ := hv1
    have hx : xs = [] := List.eq_nil_of_length_eq_zero hrow.1
    subst hx
    refine (Any.slices_Sort_string_none lays190 A 0 w).mono ?_
    rintro e' w' ⟨rfl, rfl⟩
    have hs0 : sortB [] = [] := List.eq_nil_of_length_eq_zero (sortB_len [])
    rw [hs0]
    exact ⟨.tuple #[], Im, ρ, rfl, hrs, ⟨_, rfl, VRs_nil.2 rfl⟩, Kp.refl _ _, fun _ h => h, fun _ h => .inl h, fun _ h => .inr h, fun _ _ => .inl rfl⟩
  | blk g n cap =>
    rw [hρ] at hv1 hrow
    obtain rfl := hv1
    obtain ⟨cur, fr, hh, hnf, hcnt, hcap, hmax, hcs, hcells⟩ := hrow
    have hn : n = xs.length := hcnt.symm
    subst hn
    have hcs' : cur.size = cap := by simpa using hcs
    have hcur : cur.toList.take xs.length = (xs.map (·.data.toList)).map Go.Proofs.encStr := by
      have := (flat_strs w Im ρ xs _).1 hcells
      simpa using this
    have hH : Go.Sort.Holds Go.Proofs.encStr w g 0 (xs.map (·.data.toList)).toArray := by
      intro j hj
      have hj' : j < xs.length := by simpa using hj
      refine ⟨?_, ?_⟩
      · have h1 : (cur.toList.take xs.length)[j]? = ((xs.map (·.data.toList)).map Go.Proofs.encStr)[j]? := by rw [hcur]
        rw [List.getElem?_take_of_lt hj'] at h1
        simp only [World.cell?, hh, Nat.zero_add, Option.isSome_none, Bool.false_eq_true, if_false]
        rw [← Array.getElem?_toList, h1]
        simp [hj']
      · have := hnf j (by omega)
        obtain ⟨lo, hi⟩ := fr
        simp only [World.frozen?, hh, Nat.zero_add]
        simpa using this
    have hgl := hrs.lt hρ
    have hc := Any.slices_Sort_string lays190 g 0 cap (xs.map (·.data.toList)) w hH hgl (by simpa using hlen)
    rw [List.length_map] at hc
    refine hc.mono ?_
    rintro e' w' ⟨rfl, k, os, rfl⟩
    rw [← sortB_enc]
    have hg := heap_sorted (n := k) (os := os) ((sortB xs).map (·.data.toList)).toArray hh
    have hk0 := grownBy_sorted (w := w) (g := g) (n := k) (os := os) ((sortB xs).map (·.data.toList)).toArray
    have hk : Kp (fun b => b = g) w (Go.Sort.grow (Go.Sort.putRow Go.Proofs.encStr (Go.Sort.ahead w k) g 0 ((sortB xs).map (·.data.toList)).toArray) os) :=
      ⟨hk0.os, hk0.tape, hk0.output, hk0.size, fun b hb hne => hk0.block b hb (fun e1 => hne (by cases e1; rfl))⟩
    have hE := Eff.set (nb := 0) (y := ⟨e, 1, .list .str (sortB xs)⟩) hrs hl hρ hg (by simpa [Go.Sort.putCells] using hnf) hk hsz hok (sortB_len xs) hcap hmax (by simpa [Go.Sort.putCells] using hcs)
      (by
        refine (flat_strs w Im ρ (sortB xs) _).2 ?_
        have := take_putCells cur ((sortB xs).map (·.data.toList)) (by simp only [List.length_map, sortB_len]; omega)
        rw [List.length_map, sortB_len] at this
        rw [Nat.mul_one]
        exact this)
    exact ⟨.tuple #[], Im, ρ, rfl, hE.rs, ⟨_, rfl, VRs_nil.2 rfl⟩, hE.kp, fun _ h => h, fun _ h => .inl h, fun _ h => .inr h, fun _ _ => .inl rfl⟩
theorem slices_Sort_w {N mm : Nat} {e : TypeId} {xs y : List ByteArray} (h : slices_Sort N xs = some y) :
    CallOK Tryz.prog (lays190_ren.f 190) mm [.own 0 1] [(0, ⟨e, 1, .list .str xs⟩)] false (.tup []) [(0, ⟨e, 1, .list .str y⟩)] := by
  unfold slices_Sort at h
  split at h
  · cases h; exact slices_Sort_c ‹_›
  · cases h
end Go.Proofs.YtfogafinohfpfaaGreatDoorV
