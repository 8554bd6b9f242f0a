/- That each operation on maps does what the machine's operation does. -/
import Derived.Test.YtfogafinohfpfaaGreatDoorVjp
import Derived.WideKeyRuns
namespace Go.Proofs.YtfogafinohfpfaaGreatDoorV
open Go.RowKit
set_option linter.unusedVariables false
set_option linter.unusedSimpArgs false

variable {P : Program} {w : World} {Im : Nat → Prop} {ρ : Nat → Loc} {m : Rows}

/-! ### Values that are no rows' -/
theorem av1_refs : ∀ (t : Ty) (x : El t), (av1 t x).refs = [] := by
  have key : ∀ (t : Ty) (x : El t), AV.refsL (enc t x) = [] := by
    intro t
    induction t with
    | int k => intro _; rfl
    | bool => intro _; rfl
    | str => intro _; rfl
    | list t => intro _; rfl
    | node => intro _; rfl
    | prod a b iha ihb =>
      intro x
      have : ∀ l l' : List AV, AV.refsL l = [] → AV.refsL l' = [] → AV.refsL (l ++ l') = [] := by
        intro l l' h h'
        induction l with
        | nil => exact h'
        | cons y l ih =>
          simp only [AV.refsL, List.append_eq_nil_iff, List.cons_append] at h ⊢
          exact ⟨h.1, ih h.2⟩
      exact this _ _ (iha _) (ihb _)
  intro t
  cases t with
  | int k => intro _; rfl
  | bool => intro _; rfl
  | str => intro _; rfl
  | list t => intro _; rfl
  | node => intro x; exact key .node x
  | prod a b => intro x; exact key (.prod a b) x

theorem elOf_ok {t : Ty} {x : AV} {e : El t} {v : Value} (h : elOf t x = some e) (hv : VR w Im ρ x v) (ρ' : Nat → Loc) : VR w Im ρ' (av1 t e) v := by
  refine VR_noref (ρ := ρ) _ _ (av1_refs t e) ?_
  unfold elOf at h
  split at h
  · rename_i e' hd
    cases hc : x.isAgg == wideT t with
    | false => rw [hc] at h; cases h
    | true =>
      rw [hc] at h
      simp only [cond_true, Option.some.injEq] at h
      subst h
      have hw : x.isAgg = wideT t := by simpa using hc
      cases hx : x.isAgg with
      | true =>
        rw [hx] at hw
        cases x <;> simp only [AV.isAgg, Bool.false_eq_true] at hx
        rename_i l
        obtain ⟨cs, rfl, hl⟩ := hv
        have := dec_ok hd hl
        rw [List.append_nil] at this
        cases t <;> simp only [wideT, Bool.true_eq_false] at hw
        · exact ⟨cs, rfl, this⟩
        · exact ⟨cs, rfl, this⟩
      | false =>
        rw [hx] at hw
        have hcs : x.cells = [x] := by cases x <;> first | rfl | cases hx
        rw [hcs] at hd
        have := dec_ok hd (VRs_one.2 ⟨v, rfl, hv⟩)
        rw [List.append_nil] at this
        have one : ∀ {y : AV}, VRs w Im ρ [y] [v] → VR w Im ρ y v := by
          intro y hy
          obtain ⟨u, e1, e2⟩ := VRs_one.1 hy
          simp only [List.cons.injEq, and_true] at e1
          subst e1
          exact e2
        cases t <;> first | exact one this | (simp only [wideT, Bool.false_eq_true] at hw)
  · cases h

/-! ### Keys -/
theorem leaf_flat {ft : TypeId} {t : Ty} (h : leafIs P ft t = true) : t.flat = true ∧ wideT t = false := by
  unfold leafIs at h
  split at h <;> first | exact ⟨rfl, rfl⟩ | cases h

theorem eqE_eq : ∀ {t : Ty} {a b : El t}, eqE t a b = true → a = b
  | .int _, a, b, h => by simpa [eqE] using h
  | .bool, a, b, h => by simpa [eqE] using h
  | .str, a, b, h => by
    have e : ByteArray.toList a = ByteArray.toList b := by simpa [eqE] using h
    have key : ∀ s : ByteArray, s.toList = s.data.toList := fun s => ByteArray.toList_eq s
    rw [key, key] at e
    cases a; cases b
    simp only [ByteArray.mk.injEq] at e ⊢
    exact Array.ext' e
  | .prod s t, a, b, h => by
    simp only [eqE, Bool.and_eq_true] at h
    exact Prod.ext (eqE_eq h.1) (eqE_eq h.2)
  | .list _, _, _, h => by simp [eqE] at h
  | .node, _, _, h => by simp [eqE] at h

theorem keyFs_flat : ∀ {fs : List Field} {i : Nat} {t : Ty}, keyFs P fs i t = true → t.flat = true
  | [], i, t, h => by cases t <;> simp [keyFs] at h
  | [f], i, t, h => by
    simp only [keyFs, Bool.and_eq_true] at h
    exact (leaf_flat h.2).1
  | f :: g :: fs, i, t, h => by
    cases t <;> simp only [keyFs, Bool.false_eq_true] at h
    simp only [Bool.and_eq_true] at h
    simp only [Ty.flat, Bool.and_eq_true]
    exact ⟨(leaf_flat h.1.2).1, keyFs_flat h.2⟩

theorem keyOK_flat {kt : TypeId} {k : Ty} (h : keyOK P kt k = true) : k.flat = true := by
  unfold keyOK at h
  rw [Bool.or_eq_true] at h
  rcases h with h | h
  · exact (leaf_flat h).1
  · split at h
    · simp only [Bool.and_eq_true] at h
      exact keyFs_flat h.1.2
    · cases h

theorem enc_det : ∀ {t : Ty} {x : El t} {us vs : List Value}, t.flat = true → VRs w Im ρ (enc t x) us → VRs w Im ρ (enc t x) vs → us = vs
  | .int _, x, us, vs, _, h, h' => by
    obtain ⟨u, rfl, hu⟩ := VRs_one.1 h
    obtain ⟨v, rfl, hv⟩ := VRs_one.1 h'
    simp only [VR] at hu hv
    rw [hu, hv]
  | .bool, x, us, vs, _, h, h' => by
    obtain ⟨u, rfl, hu⟩ := VRs_one.1 h
    obtain ⟨v, rfl, hv⟩ := VRs_one.1 h'
    simp only [VR] at hu hv
    rw [hu, hv]
  | .str, x, us, vs, _, h, h' => by
    obtain ⟨u, rfl, hu⟩ := VRs_one.1 h
    obtain ⟨v, rfl, hv⟩ := VRs_one.1 h'
    simp only [VR] at hu hv
    rw [hu, hv]
  | .prod a b, x, us, vs, hf, h, h' => by
    simp only [Ty.flat, Bool.and_eq_true] at hf
    obtain ⟨a1, b1, rfl, h1, h2⟩ := VRs_split h
    obtain ⟨a2, b2, rfl, h3, h4⟩ := VRs_split h'
    rw [enc_det hf.1 h1 h3, enc_det hf.2 h2 h4]
  | .list _, _, _, _, hf, _, _ => by simp [Ty.flat] at hf
  | .node, _, _, _, hf, _, _ => by simp [Ty.flat] at hf

theorem av1_det {t : Ty} {x : El t} {u v : Value} (hf : t.flat = true) (h : VR w Im ρ (av1 t x) u) (h' : VR w Im ρ (av1 t x) v) : u = v := by
  cases t with
  | int k => simp only [av1, VR] at h h'; rw [h, h']
  | bool => simp only [av1, VR] at h h'; rw [h, h']
  | str => simp only [av1, VR] at h h'; rw [h, h']
  | list t => simp [Ty.flat] at hf
  | node => simp [Ty.flat] at hf
  | prod a b =>
    obtain ⟨cs, rfl, hc⟩ := h
    obtain ⟨ds, rfl, hd⟩ := h'
    have := enc_det hf hc hd
    congr 1
    exact Array.ext' this

theorem leaf_enc {ft : TypeId} {t : Ty} (h : leafIs P ft t = true) (x : El t) : enc t x = [av1 t x] := by
  unfold leafIs at h
  split at h <;> first | rfl | cases h

theorem eqLeaf_key {ft : TypeId} {t : Ty} (h : leafIs P ft t = true) (x y : El t) : eqLeaf P ft (av1 t x) (av1 t y) = some (eqE t x y) := by
  unfold leafIs at h
  split at h
  · rename_i hu
    simp only [eqLeaf, hu, av1, if_true, eqE]
  · rename_i hu
    simp only [eqLeaf, hu, av1, eqE]
  · rename_i hu
    simp only [eqLeaf, hu, av1, eqE]
  · cases h

theorem eqAt_key {f : Field} {t : Ty} {i : Nat} (ho : (f.offset == i) = true) (hn : (f.name != "_") = true) (h : leafIs P f.type t = true) (x y : El t) {pre pre' r r' : List AV} (h1 : pre.length = i) (h2 : pre'.length = i) :
    eqAt P (pre ++ (enc t x ++ r)) (pre' ++ (enc t y ++ r')) f = some (eqE t x y) := by
  have eo : f.offset = i := by simpa using ho
  have en : (f.name == "_") = false := by simpa using hn
  unfold eqAt
  rw [leaf_enc h x, leaf_enc h y, eo]
  have e1 : (pre ++ ([av1 t x] ++ r))[i]? = some (av1 t x) := by rw [List.getElem?_append_right (by omega)]; simp [h1]
  have e2 : (pre' ++ ([av1 t y] ++ r'))[i]? = some (av1 t y) := by rw [List.getElem?_append_right (by omega)]; simp [h2]
  rw [e1, e2, en]
  exact eqLeaf_key h x y

theorem eqFs_key : ∀ (fs : List Field) (i : Nat) (k : Ty), keyFs P fs i k = true → ∀ (x y : El k) (pre pre' : List AV), pre.length = i → pre'.length = i → eqFs P (pre ++ enc k x) (pre' ++ enc k y) fs = some (eqE k x y)
  | [], i, k, h, _, _, _, _, _, _ => by cases k <;> simp [keyFs] at h
  | [f], i, k, h, x, y, pre, pre', h1, h2 => by
    simp only [keyFs, Bool.and_eq_true] at h
    have := eqAt_key (P := P) (r := []) (r' := []) h.1.1 h.1.2 h.2 x y h1 h2
    rw [List.append_nil, List.append_nil] at this
    simp only [eqFs]
    exact this
  | f :: g :: fs, i, k, h, x, y, pre, pre', h1, h2 => by
    cases k <;> simp only [keyFs, Bool.false_eq_true] at h
    rename_i a b
    simp only [Bool.and_eq_true] at h
    have e1 := eqAt_key (P := P) (r := enc b x.2) (r' := enc b y.2) h.1.1.1 h.1.1.2 h.1.2 x.1 y.1 h1 h2
    have la : (enc a x.1).length = 1 := by rw [leaf_enc h.1.2]; rfl
    have lb : (enc a y.1).length = 1 := by rw [leaf_enc h.1.2]; rfl
    have e2 := eqFs_key (g :: fs) (i + 1) b h.2 x.2 y.2 (pre ++ enc a x.1) (pre' ++ enc a y.1) (by simp [la, h1]) (by simp [lb, h2])
    rw [List.append_assoc, List.append_assoc] at e2
    simp only [eqFs] at e2 ⊢
    simp only [enc]
    rw [e1]
    simp only [eqE]
    cases fs with
    | nil => simp only [eqFs] at e2 ⊢; rw [e2]
    | cons c fs => simp only [eqFs] at e2 ⊢; rw [e2]

/-- Two keys held against each other. -/
theorem equal_key {kt : TypeId} {k : Ty} (h : keyOK P kt k = true) (x y : El k) {a b : Value} (hx : VR w Im ρ (av1 k x) a) (hy : VR w Im ρ (av1 k y) b) : (Op.equal kt a b).run P w = .ok (eqE k x y) w := by
  unfold keyOK at h
  rw [Bool.or_eq_true] at h
  rcases h with h | h
  · exact (eqLeaf_ok (n := 9999) (eqLeaf_key h x y) hx hy).2.2
  · split at h
    · rename_i fs hu
      simp only [Bool.and_eq_true, Bool.not_eq_true', decide_eq_true_eq] at h
      obtain ⟨⟨hs, hk⟩, hsz⟩ := h
      have hp : ∃ s t, k = .prod s t := by
        match hfl : fs.toList with
        | [] => rw [hfl] at hk; cases k <;> simp [keyFs] at hk
        | [f] => have : fs.size = 1 := by rw [← Array.length_toList, hfl]; rfl
                 omega
        | f :: g :: r => rw [hfl] at hk; cases k <;> simp only [keyFs, Bool.false_eq_true] at hk; exact ⟨_, _, rfl⟩
      obtain ⟨s, t, rfl⟩ := hp
      obtain ⟨us, rfl, hu'⟩ := hx
      obtain ⟨vs, rfl, hv'⟩ := hy
      have hf : P.fieldsOf kt = fs := by simp [Program.fieldsOf, hu]
      show (Op.equalIn 10000 kt (.agg us) (.agg vs)).run P w = _
      rw [run_equalIn_struct (P := P) w 9999 kt us vs (by rw [hf]; exact hu) hs, hf]
      exact eqFs_ok hu' hv' _ (by simpa using eqFs_key fs.toList 0 _ hk x y [] [] rfl rfl)
    · cases h

theorem check_leaf {ft : TypeId} {t : Ty} (h : leafIs P ft t = true) (em : Bool) (n : Nat) (v : Value) : (Instr.checkKey em (n + 1) ft v).run P w = .ok () w := by
  unfold leafIs at h
  split at h
  · rename_i hu; simp [Instr.checkKey, run_underlying hu]
  · rename_i hu; simp [Instr.checkKey, run_underlying hu]
  · rename_i hu; simp [Instr.checkKey, run_underlying hu]
  · cases h

theorem check_fields (em : Bool) (N n : Nat) (hN : N = n + 1) (cs : Array Value) : ∀ (fs : List Field) (i : Nat) (k : Ty) (x : El k) (pre : List Value), keyFs P fs i k = true → pre.length = i → (∃ vs, cs.toList = pre ++ vs ∧ VRs w Im ρ (enc k x) vs) →
    (forIn (m := Sem) fs PUnit.unit (fun f _ => if f.name ≠ "_" then (do
        let x ← part f.type cs f.offset
        Instr.checkKey em N f.type x
        pure (ForInStep.yield PUnit.unit)) else pure (ForInStep.yield PUnit.unit))).run P w = .ok PUnit.unit w
  | [], i, k, x, pre, h, _, _ => by cases k <;> simp [keyFs] at h
  | [f], i, k, x, pre, h, hl, ⟨vs, hvs, hv⟩ => by
    simp only [keyFs, Bool.and_eq_true] at h
    obtain ⟨⟨ho, hn⟩, hf⟩ := h
    rw [leaf_enc hf x] at hv
    obtain ⟨v, e0, hv1⟩ := VRs_one.1 hv
    have eo : f.offset = i := by simpa using ho
    have en : f.name ≠ "_" := by simpa using hn
    have hp : (part f.type cs f.offset).run P w = .ok v w := by
      have h0 := eqLeaf_ok (n := 0) (eqLeaf_key hf x x) hv1 hv1
      refine part_run h0.1 h0.2.1 ?_
      rw [← Array.getElem?_toList, hvs, eo, List.getElem?_append_right (by omega), e0]
      simp [hl]
    have hc := check_leaf (P := P) (w := w) hf em n v
    rw [← hN] at hc
    simp only [List.forIn_cons, List.forIn_nil, Sem.run_bind, en, ne_eq, not_false_eq_true, if_true, Result.andThen_ok, hp, hc, Sem.run_pure]
  | f :: g :: fs, i, k, x, pre, h, hl, ⟨vs, hvs, hv⟩ => by
    cases k <;> simp only [keyFs, Bool.false_eq_true] at h
    rename_i a b
    simp only [Bool.and_eq_true] at h
    obtain ⟨⟨⟨ho, hn⟩, hf⟩, hr⟩ := h
    simp only [enc] at hv
    rw [leaf_enc hf x.1] at hv
    obtain ⟨v, r, e0, hv1, hv2⟩ := VRs_cons.1 (show VRs w Im ρ (av1 a x.1 :: enc b x.2) vs by simpa using hv)
    have eo : f.offset = i := by simpa using ho
    have en : f.name ≠ "_" := by simpa using hn
    have hp : (part f.type cs f.offset).run P w = .ok v w := by
      have h0 := eqLeaf_ok (n := 0) (eqLeaf_key hf x.1 x.1) hv1 hv1
      refine part_run h0.1 h0.2.1 ?_
      rw [← Array.getElem?_toList, hvs, eo, List.getElem?_append_right (by omega), e0]
      simp [hl]
    have hc := check_leaf (P := P) (w := w) hf em n v
    rw [← hN] at hc
    have ih := check_fields em N n hN cs (g :: fs) (i + 1) b x.2 (pre ++ [v]) hr (by simp [hl]) ⟨r, by simp [hvs, e0], hv2⟩
    rw [List.forIn_cons]
    simp only [Sem.run_bind, en, ne_eq, not_false_eq_true, if_true, Result.andThen_ok, hp, hc, Sem.run_pure]
    exact ih

theorem check_key {kt : TypeId} {k : Ty} (h : keyOK P kt k = true) (em : Bool) {x : El k} {v : Value} (hx : VR w Im ρ (av1 k x) v) : (Instr.checkKey em 10000 kt v).run P w = .ok () w := by
  unfold keyOK at h
  rw [Bool.or_eq_true] at h
  rcases h with h | h
  · exact check_leaf h em 9999 v
  · split at h
    · rename_i fs hu
      simp only [Bool.and_eq_true, Bool.not_eq_true', decide_eq_true_eq] at h
      obtain ⟨⟨hs, hk⟩, hsz⟩ := h
      have hp : ∃ s t, k = .prod s t := by
        match hfl : fs.toList with
        | [] => rw [hfl] at hk; cases k <;> simp [keyFs] at hk
        | [f] => have : fs.size = 1 := by rw [← Array.length_toList, hfl]; rfl
                 omega
        | f :: g :: r => rw [hfl] at hk; cases k <;> simp only [keyFs, Bool.false_eq_true] at hk; exact ⟨_, _, rfl⟩
      obtain ⟨s, t, rfl⟩ := hp
      obtain ⟨us, rfl, hu'⟩ := hx
      rw [show (10000 : Nat) = 9999 + 1 from rfl, Instr.checkKey]
      simp only [Sem.run_bind, run_underlying hu, Result.andThen_ok]
      rw [← Array.forIn_toList, check_fields (w := w) (Im := Im) (ρ := ρ) em 9999 9998 rfl us fs.toList 0 _ x [] hk rfl ⟨us.toList, rfl, hu'⟩]
      rfl
    · cases h

/-! ### Entries -/
def findE {α β : Type} (eq : α → α → Bool) (key : α) : List (α × β) → Option Nat
  | [] => none
  | p :: r => bif eq key p.1 then some 0 else (findE eq key r).map (· + 1)

def valAt (es : List MapEntry) (j : Nat) : Value := match es[j]? with
  | some e => e.val
  | none => undef

theorem findNow_key {kt : TypeId} {k v : Ty} {ds : TypeDesc} (h : leafIs P kt k = true) (hu : P.underlying kt = some ds) {x : El k} {xv : Value} (hx : VR w Im ρ (av1 k x) xv) : ∀ (es : List MapEntry) (xs : List (El k × El v)) (i : Nat), MapR w Im k v es xs →
    Instr.findNow ds xv es i = some ((findE (eqE k) x xs).map fun j => (i + j, valAt es j))
  | [], xs, i, hm => by
    simp only [MapR] at hm
    subst hm
    rfl
  | e :: es, xs, i, hm => by
    obtain ⟨p, r, rfl, h1, h2, h3⟩ := hm
    have hs : Instr.sameNow ds xv e.key = some (eqE k x p.1) := by
      unfold leafIs at h
      split at h
      · rename_i hu'
        rw [hu] at hu'; cases hu'
        simp only [av1, VR] at hx h1
        rw [hx, h1]
        simp [Instr.sameNow, eqE]
      · rename_i hu'
        rw [hu] at hu'; cases hu'
        simp only [av1, VR] at hx h1
        rw [hx, h1]
        simp only [Instr.sameNow, eqE]
        congr 1
        rw [Bool.eq_iff_iff]
        rw [MapKept.bytes_beq]
        simp only [beq_iff_eq, ByteArray.toList_eq]
        exact bytes_iff
      · rename_i hu'
        rw [hu] at hu'; cases hu'
        simp only [av1, VR] at hx h1
        rw [hx, h1]
        simp [Instr.sameNow, eqE]
      · cases h
    rw [Instr.findNow, hs, findE]
    cases hq : eqE k x p.1 with
    | true => simp [valAt]
    | false =>
      simp only [cond_false]
      rw [findNow_key h hu hx es r (i + 1) h3]
      simp only [Option.map_map]
      congr 2
      funext j
      simp [valAt, Nat.add_assoc, Nat.add_comm 1 j]
where
  bytes_iff {a b : ByteArray} : a = b ↔ a.data.toList = b.data.toList := by
    constructor
    · rintro rfl; rfl
    · intro e
      cases a; cases b
      simp only [ByteArray.mk.injEq] at e ⊢
      exact Array.ext' e

theorem findAsking_key {kt : TypeId} {k v : Ty} (h : keyOK P kt k = true) {x : El k} {xv : Value} (hx : VR w Im (fun _ => .gone) (av1 k x) xv) : ∀ (es : List MapEntry) (xs : List (El k × El v)) (i : Nat), MapR w Im k v es xs →
    (Instr.findAsking kt xv es i).run P w = .ok ((findE (eqE k) x xs).map fun j => (i + j, valAt es j)) w
  | [], xs, i, hm => by
    simp only [MapR] at hm
    subst hm
    rfl
  | e :: es, xs, i, hm => by
    obtain ⟨p, r, rfl, h1, h2, h3⟩ := hm
    have hq := equal_key h x p.1 hx h1
    rw [Instr.findAsking, findE]
    simp only [Sem.run_bind, hq, Result.andThen_ok]
    cases hc : eqE k x p.1 with
    | true => simp [valAt]
    | false =>
      simp only [cond_false, Bool.false_eq_true, if_false]
      rw [findAsking_key h hx es r (i + 1) h3]
      simp only [Option.map_map]
      congr 2
      funext j
      simp [valAt, Nat.add_assoc, Nat.add_comm 1 j]

theorem find_key {kt : TypeId} {k v : Ty} (h : keyOK P kt k = true) {x : El k} {xv : Value} (hx : VR w Im (fun _ => .gone) (av1 k x) xv) {es : List MapEntry} {xs : List (El k × El v)} (hm : MapR w Im k v es xs) :
    (Instr.findKey kt xv es).run P w = .ok ((findE (eqE k) x xs).map fun j => (j, valAt es j)) w := by
  have e0 : ((findE (eqE k) x xs).map fun j => (0 + j, valAt es j)) = ((findE (eqE k) x xs).map fun j => (j, valAt es j)) := by congr 1; funext j; rw [Nat.zero_add]
  by_cases hl : leafIs P kt k = true
  · have hu : ∃ ds, P.underlying kt = some ds := by
      unfold leafIs at hl
      split at hl <;> first | exact ⟨_, by assumption⟩ | cases hl
    obtain ⟨ds, hu⟩ := hu
    unfold Instr.findKey
    simp only [Sem.run_bind, run_underlying hu, Result.andThen_ok, findNow_key hl hu hx es xs 0 hm, e0, Sem.run_pure]
  · rw [run_findKey_eq w, findAsking_key h hx es xs 0 hm, e0]
    unfold keyOK at h
    rw [Bool.or_eq_true] at h
    rcases h with h | h
    · exact absurd h hl
    · split at h
      · rename_i hu; rw [hu]
      · cases h

/-- What is found, of lists. -/
theorem findE_none {α β : Type} {eq : α → α → Bool} {key : α} {d x : β} : ∀ {xs : List (α × β)}, findE eq key xs = none → getE eq key d xs = d ∧ hasE eq key xs = false ∧ setE eq key x xs = xs ++ [(key, x)] ∧ delE eq key xs = xs
  | [], _ => ⟨rfl, rfl, rfl, rfl⟩
  | p :: r, h => by
    simp only [findE] at h
    cases hc : eq key p.1 with
    | true => rw [hc] at h; cases h
    | false =>
      rw [hc] at h
      have ih := findE_none (d := d) (x := x) (xs := r) (by simpa using h)
      simp only [getE, hasE, setE, delE, hc, cond_false, Bool.false_or, ih, List.cons_append]
      exact ⟨trivial, trivial, trivial, trivial⟩

theorem findE_some {α β : Type} {eq : α → α → Bool} {key : α} {d x : β} : ∀ {xs : List (α × β)} {j : Nat}, findE eq key xs = some j → ∃ p, xs[j]? = some p ∧ eq key p.1 = true ∧ getE eq key d xs = p.2 ∧ hasE eq key xs = true ∧ setE eq key x xs = xs.set j (key, x) ∧ delE eq key xs = xs.eraseIdx j
  | [], j, h => by cases h
  | p :: r, j, h => by
    simp only [findE] at h
    cases hc : eq key p.1 with
    | true =>
      rw [hc] at h
      cases h
      exact ⟨p, rfl, hc, by simp [getE, hc], by simp [hasE, hc], by simp [setE, hc], by simp [delE, hc]⟩
    | false =>
      rw [hc] at h
      simp only [cond_false, Option.map_eq_some_iff] at h
      obtain ⟨j', hj, rfl⟩ := h
      obtain ⟨q, h1, h2, h3, h4, h5, h6⟩ := findE_some (d := d) (x := x) hj
      exact ⟨q, by simpa using h1, h2, by simp [getE, hc, h3], by simp [hasE, hc, h4], by simp [setE, hc, h5], by simp [delE, hc, h6]⟩

theorem MapR_at {k v : Ty} : ∀ {es : List MapEntry} {xs : List (El k × El v)} {j : Nat} {p : El k × El v}, MapR w Im k v es xs → xs[j]? = some p → ∃ e, es[j]? = some e ∧ VR w Im (fun _ => .gone) (av1 k p.1) e.key ∧ VR w Im (fun _ => .gone) (av1 v p.2) e.val
  | [], xs, j, p, h, hp => by simp only [MapR] at h; subst h; simp at hp
  | e :: es, xs, j, p, h, hp => by
    obtain ⟨q, r, rfl, h1, h2, h3⟩ := h
    cases j with
    | zero => simp at hp; subst hp; exact ⟨e, rfl, h1, h2⟩
    | succ j => simpa using MapR_at h3 (by simpa using hp)

theorem MapR_snoc {k v : Ty} {e : MapEntry} {p : El k × El v} (h1 : VR w Im (fun _ => .gone) (av1 k p.1) e.key) (h2 : VR w Im (fun _ => .gone) (av1 v p.2) e.val) : ∀ {es : List MapEntry} {xs : List (El k × El v)}, MapR w Im k v es xs → MapR w Im k v (es ++ [e]) (xs ++ [p])
  | [], xs, h => by simp only [MapR] at h; subst h; exact ⟨p, [], rfl, h1, h2, rfl⟩
  | e' :: es, xs, h => by
    obtain ⟨q, r, rfl, a, b, c⟩ := h
    exact ⟨q, r ++ [p], rfl, a, b, MapR_snoc h1 h2 c⟩

theorem MapR_set {k v : Ty} {e : MapEntry} {p : El k × El v} (h1 : VR w Im (fun _ => .gone) (av1 k p.1) e.key) (h2 : VR w Im (fun _ => .gone) (av1 v p.2) e.val) : ∀ {es : List MapEntry} {xs : List (El k × El v)} (j : Nat), MapR w Im k v es xs → MapR w Im k v (es.set j e) (xs.set j p)
  | [], xs, j, h => by simp only [MapR] at h; subst h; simp [MapR]
  | e' :: es, xs, j, h => by
    obtain ⟨q, r, rfl, a, b, c⟩ := h
    cases j with
    | zero => exact ⟨p, r, rfl, h1, h2, c⟩
    | succ j => exact ⟨q, r.set j p, rfl, a, b, MapR_set h1 h2 j c⟩

theorem MapR_erase {k v : Ty} : ∀ {es : List MapEntry} {xs : List (El k × El v)} (j : Nat), MapR w Im k v es xs → MapR w Im k v (es.eraseIdx j) (xs.eraseIdx j)
  | [], xs, j, h => by simp only [MapR] at h; subst h; simp [MapR]
  | e' :: es, xs, j, h => by
    obtain ⟨q, r, rfl, a, b, c⟩ := h
    cases j with
    | zero => exact c
    | succ j => exact ⟨q, r.eraseIdx j, rfl, a, b, MapR_erase j c⟩

theorem Born.push {es : List MapEntry} {clock : Nat} (h : Born es clock) (k v : Value) : Born (es ++ [⟨k, v, clock⟩]) (clock + 1) := by
  refine ⟨fun e he => ?_, ?_⟩
  · rcases List.mem_append.1 he with he | he
    · have := h.1 e he; omega
    · simp only [List.mem_singleton] at he; subst he; simp
  · rw [List.pairwise_append]
    refine ⟨h.2, by simp, fun a ha b hb => ?_⟩
    simp only [List.mem_singleton] at hb; subst hb
    exact h.1 a ha

theorem pair_map {α : Type} (f : α → Nat) (l : List α) : (l.Pairwise fun a b => f a < f b) ↔ (l.map f).Pairwise (· < ·) := by rw [List.pairwise_map]

theorem Born.set {es : List MapEntry} {clock : Nat} (h : Born es clock) (j : Nat) {e e' : MapEntry} (hj : es[j]? = some e) (hb : e'.born = e.born) : Born (es.set j e') clock := by
  have hm : (es.set j e').map (·.born) = es.map (·.born) := by
    rw [List.map_set, hb]
    apply List.ext_getElem?
    intro i
    rw [List.getElem?_set]
    by_cases hi : j = i
    · subst hi
      have hlt : j < es.length := (List.getElem?_eq_some_iff.1 hj).1
      have : es[j] = e := (List.getElem?_eq_some_iff.1 hj).2
      simp [hlt, this]
    · simp [hi]
  refine ⟨fun x hx => ?_, ?_⟩
  · have : x.born ∈ (es.set j e').map (·.born) := List.mem_map_of_mem hx
    rw [hm] at this
    obtain ⟨y, hy, e1⟩ := List.mem_map.1 this
    rw [← e1]; exact h.1 y hy
  · rw [pair_map, hm, ← pair_map]; exact h.2

theorem Born.erase {es : List MapEntry} {clock : Nat} (h : Born es clock) (j : Nat) : Born (es.eraseIdx j) clock :=
  ⟨fun e he => h.1 e (List.mem_of_mem_eraseIdx he), h.2.sublist (List.eraseIdx_sublist _ _)⟩

/-! ### Operations -/
theorem Kp.setObj (w : World) (g : Nat) (o : Obj) : Kp (fun b => b = g) w { w with heap := w.heap.setIfInBounds g o } :=
  ⟨rfl, rfl, rfl, by simp, fun b _ hn => by
    have : g ≠ b := fun e => hn e.symm
    simp [this]⟩

theorem opMakeMap_ok {nb t d} {hint : Option Value} (h : (opMakeMap P t nb).get = some d) (hr : RS w Im ρ m) (hf : ∀ q, nb ≤ q → q < nb + 64 → ρ q = .unborn) (hh : ∀ v, hint = some v → ∃ k n, v = .int k n) :
    Does nb Im ρ m w P d (Instr.makeMap t hint) := by
  unfold opMakeMap at h
  split at h
  · rename_i kt et hu
    split at h
    · rename_i k v hk hv
      obtain ⟨_, rfl⟩ := get_val h
      have hrun : (Instr.makeMap t hint).run P w = .ok (.map (some w.heap.size)) (w.alloc (.map #[] 0)) := by
        cases hint with
        | none => rfl
        | some x =>
          obtain ⟨kk, n, rfl⟩ := hh x rfl
          unfold Instr.makeMap
          simp only [Sem.run_bind, run_underlying hu, Result.andThen_ok, asInt, Sem.run_pure]
          rfl
      refine ⟨_, _, Im, upd ρ nb (.blk w.heap.size 0 0), hrun, ?_, ?_⟩
      · refine Eff.newB hr (hf nb (Nat.le_refl _) (by omega)) ⟨Nat.le_refl _, by omega⟩ (by simp) (by simp [Row.okc]) (kp_alloc _ _) (Nat.le_refl _) fun _ ρ' _ _ => ?_
        exact ⟨rfl, #[], 0, (MapKept.heap_alloc w _).1, ⟨by simp, by simp⟩, rfl⟩
      · simp only [VR, upd_same]
        rfl
    · cases h
  · cases h

theorem opLookup_ok {t x i a b d ok} (h : (opLookup P m t x i ok).get = some d) (hr : RS w Im ρ m) (hx : VR w Im ρ x a) (hi : VR w Im ρ i b) : Quiet w Im ρ P d (Instr.lookup t a b ok) := by
  unfold opLookup at h
  split at h
  · rename_i kt et r hu
    split at h
    · rename_i e sz k v xs z hl hz
      split at h
      · rename_i key d0 hk hkey hd0
        obtain ⟨_, rfl⟩ := get_val h
        obtain ⟨g, cap, es, clock, hρ, rfl, hg, hbo, hm, _⟩ := map_at hr hl hx
        have hkv := elOf_ok hkey hi (fun _ => .gone)
        obtain ⟨zv, zi, hzr, hzv, _⟩ := zeroOf_ok (w := w) (Im := Im) (ρ := ρ) hz
        have hz1 := elOf_ok hd0 hzv ρ
        have hfind := find_key (w := w) hk hkv hm
        have hchk := check_key (w := w) hk es.isEmpty hkv
        refine ⟨rfl, ?_⟩
        have fin : ∀ u bb, VR w Im ρ (av1 v (getE (eqE k) key d0 xs)) u → bb = hasE (eqE k) key xs → VR w Im ρ (bif ok then AV.tup [av1 v (getE (eqE k) key d0 xs), .bool (hasE (eqE k) key xs)] else av1 v (getE (eqE k) key d0 xs)) (if ok = true then .tuple #[u, .bool bb] else u) := by
          intro u bb huv hbb
          cases ok with
          | true => exact ⟨#[u, .bool bb], rfl, VRs_cons.2 ⟨_, _, rfl, huv, VRs_one.2 ⟨_, rfl, by rw [hbb]; rfl⟩⟩⟩
          | false => exact huv
        cases hfe : findE (eqE k) key xs with
        | none =>
          obtain ⟨h1, h2, _⟩ := findE_none (d := d0) (x := d0) hfe
          rw [hfe] at hfind
          refine ⟨_, ?_, fin zv false (by rw [h1]; exact hz1) h2.symm⟩
          unfold Instr.lookup
          simp only [Sem.run_bind, run_underlying hu, Result.andThen_ok, MapKept.run_getObj_map hg, Sem.run_pure, hchk, hfind, Option.map_none, hzr]
        | some j =>
          obtain ⟨p, hp, _, h1, h2, _⟩ := findE_some (d := d0) (x := d0) hfe
          obtain ⟨en, hen, _, hval⟩ := MapR_at hm hp
          rw [hfe] at hfind
          refine ⟨_, ?_, fin en.val true (by rw [h1]; exact VR_noref _ _ (av1_refs _ _) hval) h2.symm⟩
          unfold Instr.lookup
          simp only [Sem.run_bind, run_underlying hu, Result.andThen_ok, MapKept.run_getObj_map hg, Sem.run_pure, hchk, hfind, Option.map_some, valAt, hen]
      · cases h
    · cases h
  · rename_i kt et hu
    split at h
    · rename_i k v z hkt hvt hz
      split at h
      · rename_i key d0 hk hkey hd0
        obtain ⟨_, rfl⟩ := get_val h
        have ha : a = .map none := hx
        subst ha
        have hkv := elOf_ok hkey hi (fun _ => .gone)
        obtain ⟨zv, zi, hzr, hzv, _⟩ := zeroOf_ok (w := w) (Im := Im) (ρ := ρ) hz
        have hz1 := elOf_ok hd0 hzv ρ
        have hchk := check_key (w := w) hk true hkv
        refine ⟨rfl, ?_⟩
        refine ⟨if ok = true then .tuple #[zv, .bool false] else zv, ?_, ?_⟩
        · unfold Instr.lookup
          have hfind := find_key (w := w) (v := v) (es := []) (xs := []) hk hkv rfl
          have hfind : (Instr.findKey kt b []).run P w = .ok none w := hfind
          simp only [Sem.run_bind, run_underlying hu, Result.andThen_ok, Sem.run_pure, Array.isEmpty_empty, hchk, hfind, hzr]
        · cases ok with
          | true => exact ⟨#[zv, .bool false], rfl, VRs_cons.2 ⟨_, _, rfl, hz1, VRs_one.2 ⟨_, rfl, rfl⟩⟩⟩
          | false => exact hz1
      · cases h
    · cases h
  · cases h

theorem sameBits_leaf {ft : TypeId} {t : Ty} (h : leafIs P ft t = true) {x : El t} {v : Value} (hv : VR w Im ρ (av1 t x) v) (n : Nat) : Instr.sameBits n v v = true := by
  unfold leafIs at h
  split at h
  · simp only [av1, VR] at hv; rw [hv]; cases n <;> simp [Instr.sameBits, MapKept.bytes_beq]
  · simp only [av1, VR] at hv; rw [hv]; cases n <;> simp [Instr.sameBits, MapKept.bytes_beq]
  · simp only [av1, VR] at hv; rw [hv]; cases n <;> simp [Instr.sameBits, MapKept.bytes_beq]
  · cases h

theorem sameBits_fields : ∀ (fs : List Field) (i : Nat) (k : Ty) (x : El k) (vs : List Value) (n : Nat), keyFs P fs i k = true → VRs w Im ρ (enc k x) vs → ∀ u ∈ vs, Instr.sameBits n u u = true
  | [], i, k, x, vs, n, h, _ => by cases k <;> simp [keyFs] at h
  | [f], i, k, x, vs, n, h, hv => by
    simp only [keyFs, Bool.and_eq_true] at h
    rw [leaf_enc h.2] at hv
    obtain ⟨v, e0, hv1⟩ := VRs_one.1 hv
    intro u hu
    rw [e0, List.mem_singleton] at hu
    subst hu
    exact sameBits_leaf h.2 hv1 n
  | f :: g :: fs, i, k, x, vs, n, h, hv => by
    cases k <;> simp only [keyFs, Bool.false_eq_true] at h
    rename_i a b
    simp only [Bool.and_eq_true] at h
    simp only [enc] at hv
    rw [leaf_enc h.1.2] at hv
    obtain ⟨v, r, e0, hv1, hv2⟩ := VRs_cons.1 (show VRs w Im ρ (av1 a x.1 :: enc b x.2) vs by simpa using hv)
    intro u hu
    rw [e0] at hu
    rcases List.mem_cons.1 hu with rfl | hu
    · exact sameBits_leaf h.1.2 hv1 n
    · exact sameBits_fields (g :: fs) (i + 1) b x.2 r n h.2 hv2 u hu

theorem stays_key {kt : TypeId} {k : Ty} (h : keyOK P kt k = true) {x : El k} {v : Value} (hx : VR w Im ρ (av1 k x) v) : (Instr.keyThatStays v v).run P w = .ok v w := by
  have hs : Instr.sameBits 10000 v v = true := by
    unfold keyOK at h
    rw [Bool.or_eq_true] at h
    rcases h with h | h
    · exact sameBits_leaf h hx _
    · split at h
      · rename_i fs hu
        simp only [Bool.and_eq_true, Bool.not_eq_true', decide_eq_true_eq] at h
        obtain ⟨⟨_, hk⟩, hsz⟩ := h
        have hp : ∃ s t, k = .prod s t := by
          match hfl : fs.toList with
          | [] => rw [hfl] at hk; cases k <;> simp [keyFs] at hk
          | [f] => have : fs.size = 1 := by rw [← Array.length_toList, hfl]; rfl
                   omega
          | f :: g :: r => rw [hfl] at hk; cases k <;> simp only [keyFs, Bool.false_eq_true] at hk; exact ⟨_, _, rfl⟩
        obtain ⟨s, t, rfl⟩ := hp
        obtain ⟨us, rfl, hu'⟩ := hx
        have := sameBits_fields fs.toList 0 _ x us.toList 9999 hk hu'
        show Instr.sameBits (9999 + 1) (.agg us) (.agg us) = true
        simp only [Instr.sameBits, beq_self_eq_true, Bool.true_and, List.all_eq_true]
        rintro ⟨p, q⟩ hpq
        have h1 := List.of_mem_zip hpq
        have : p = q := by
          obtain ⟨i, hi, e⟩ := List.mem_iff_getElem.1 hpq
          simp only [List.getElem_zip, Prod.mk.injEq] at e
          rw [← e.1, ← e.2]
        subst this
        exact this p h1.1
      · cases h
  unfold Instr.keyThatStays
  simp only [hs, if_true, Sem.run_pure]

theorem set_mod (es : Array MapEntry) (j : Nat) (e e' : MapEntry) (f : MapEntry → MapEntry) (he : es.toList[j]? = some e) (hf : f e = e') : (es.modify j f).toList = es.toList.set j e' := by
  rw [Array.toList_modify]
  apply List.ext_getElem?
  intro i
  rw [List.getElem?_modify, List.getElem?_set]
  by_cases hi : j = i
  · subst hi
    have hlt := (List.getElem?_eq_some_iff.1 he).1
    have hlt' : j < es.size := by simpa using hlt
    rw [if_pos rfl, if_pos hlt, he]
    simp [hf]
  · rw [if_neg hi]
    simp only [if_neg hi]
    cases es.toList[i]? <;> rfl

theorem opMapUpd_ok {nb t x i y a b c d} (h : (opMapUpd P m t x i y).get = some d) (hr : RS w Im ρ m) (hx : VR w Im ρ x a) (hi : VR w Im ρ i b) (hy : VR w Im ρ y c) :
    d.v = .dead ∧ ∃ w', (Instr.mapUpdate t a b c).run P w = .ok () w' ∧ Eff nb Im ρ w Im ρ (upR m d.up) w' := by
  unfold opMapUpd at h
  split at h
  · rename_i kt et r hu
    split at h
    · rename_i e sz k v xs hl
      split at h
      · rename_i key val hk hkey hval
        obtain ⟨_, rfl⟩ := get_val h
        refine ⟨rfl, ?_⟩
        obtain ⟨g, cap, es, clock, hρ, rfl, hg, hbo, hm, h0⟩ := map_at hr hl hx
        have hkv := elOf_ok hkey hi (fun _ => .gone)
        have hvv := elOf_ok hval hy (fun _ => .gone)
        have hfind := find_key (w := w) hk hkv hm
        have hchk := check_key (w := w) hk false hkv
        have hlt : g < w.heap.size := hr.lt hρ
        have fin : ∀ (o : Obj) (es' : Array MapEntry) (clock' : Nat), o = .map es' clock' → Born es'.toList clock' → MapR w Im k v es'.toList (setE (eqE k) key val xs) →
            Eff nb Im ρ w Im ρ (upR m [(r, some ⟨e, sz, .map k v (setE (eqE k) key val xs)⟩)]) { w with heap := w.heap.setIfInBounds g o } := by
          intro o es' clock' ho hb hm'
          refine Eff.setB hr hl hρ (Kp.setObj w g o) h0 (by simp [Row.okc]) fun hk' => ?_
          exact ⟨rfl, es', clock', by simp [hlt, ho], hb, MapR_mono (fun b hb => hr.im_same hk' b hb) (fun _ h => h) hm'⟩
        cases hfe : findE (eqE k) key xs with
        | none =>
          obtain ⟨_, _, h1, _⟩ := findE_none (d := val) (x := val) hfe
          rw [hfe] at hfind
          refine ⟨{ w with heap := w.heap.setIfInBounds g (.map (es.push ⟨b, c, clock⟩) (clock + 1)) }, ?_, fin _ (es.push ⟨b, c, clock⟩) (clock + 1) rfl ?_ ?_⟩
          · unfold Instr.mapUpdate
            simp only [Sem.run_bind, run_underlying hu, Result.andThen_ok, MapKept.run_getObj_map hg, hchk, hfind, Option.map_none]
            exact MapKept.run_setObj_map _ hg
          · simpa using hbo.push b c
          · rw [h1]
            simpa using MapR_snoc (p := (key, val)) (e := ⟨b, c, clock⟩) hkv hvv hm
        | some j =>
          obtain ⟨p, hp, hpk, _, _, h1, _⟩ := findE_some (d := val) (x := val) hfe
          obtain ⟨en, hen, hkk, hvl⟩ := MapR_at hm hp
          rw [hfe] at hfind
          have hke : en.key = b := by
            have e1 := eqE_eq hpk
            rw [← e1] at hkk
            exact av1_det (keyOK_flat hk) hkk hkv
          have hen' : es[j]? = some en := by rw [← Array.getElem?_toList]; exact hen
          refine ⟨{ w with heap := w.heap.setIfInBounds g (.map (es.modify j fun e => { e with key := b, val := c }) clock) }, ?_, fin _ (es.modify j fun e => { e with key := b, val := c }) clock rfl ?_ ?_⟩
          · unfold Instr.mapUpdate
            have hst := stays_key (w := w) hk hkv
            simp only [Sem.run_bind, run_underlying hu, Result.andThen_ok, MapKept.run_getObj_map hg, hchk, hfind, Option.map_some, hen', Option.getD_some, hke, hst]
            exact MapKept.run_setObj_map _ hg
          · rw [set_mod es j en ⟨b, c, en.born⟩ _ hen rfl]
            exact hbo.set j hen rfl
          · rw [h1, set_mod es j en ⟨b, c, en.born⟩ _ hen rfl]
            exact MapR_set (p := (key, val)) (e := ⟨b, c, en.born⟩) hkv hvv j hm
      · cases h
    · cases h
  · cases h

theorem opDelete_ok {nb t x i a b d} (h : (opDelete P m t x i).get = some d) (hr : RS w Im ρ m) (hx : VR w Im ρ x a) (hi : VR w Im ρ i b) (ts : Array TypeId) (hts : ts[0]? = some t) (ty : TypeId) :
    Does nb Im ρ m w P d (Builtin.delete_ ts ty #[a, b]) := by
  unfold opDelete at h
  split at h
  · rename_i kt et r hu
    split at h
    · rename_i e sz k v xs hl
      split at h
      · rename_i key hk hkey
        obtain ⟨_, rfl⟩ := get_val h
        obtain ⟨g, cap, es, clock, hρ, rfl, hg, hbo, hm, h0⟩ := map_at hr hl hx
        have hkv := elOf_ok hkey hi (fun _ => .gone)
        have hfind := find_key (w := w) hk hkv hm
        have hchk := check_key (w := w) hk es.isEmpty hkv
        have hlt : g < w.heap.size := hr.lt hρ
        have fin : ∀ (o : Obj) (es' : Array MapEntry), o = .map es' clock → Born es'.toList clock → MapR w Im k v es'.toList (delE (eqE k) key xs) →
            Eff nb Im ρ w Im ρ (upR m [(r, some ⟨e, sz, .map k v (delE (eqE k) key xs)⟩)]) { w with heap := w.heap.setIfInBounds g o } := by
          intro o es' ho hb hm'
          refine Eff.setB hr hl hρ (Kp.setObj w g o) h0 (by simp [Row.okc]) fun hk' => ?_
          exact ⟨rfl, es', clock, by simp [hlt, ho], hb, MapR_mono (fun b hb => hr.im_same hk' b hb) (fun _ h => h) hm'⟩
        have e0 : (#[Value.map (some g), b])[0]? = some (.map (some g)) := rfl
        have e1 : (#[Value.map (some g), b])[1]? = some b := rfl
        cases hfe : findE (eqE k) key xs with
        | none =>
          obtain ⟨_, _, _, h1⟩ := findE_none (d := dfl v) (x := dfl v) hfe
          rw [hfe] at hfind
          refine ⟨_, { w with heap := w.heap.setIfInBounds g (.map es clock) }, Im, ρ, ?_, fin _ es rfl hbo (by rw [h1]; exact hm), ⟨#[], rfl, VRs_nil.2 rfl⟩⟩
          unfold Builtin.delete_
          simp only [hts, e0, e1, Sem.run_bind, run_underlying hu, Result.andThen_ok, MapKept.run_getObj_map hg, hchk, hfind, Option.map_none, MapKept.run_setObj_map _ hg, Sem.run_pure]
        | some j =>
          obtain ⟨p, hp, hpk, _, _, _, h1⟩ := findE_some (d := dfl v) (x := dfl v) hfe
          rw [hfe] at hfind
          have he : (es.eraseIdxIfInBounds j).toList = es.toList.eraseIdx j := by simp
          refine ⟨_, { w with heap := w.heap.setIfInBounds g (.map (es.eraseIdxIfInBounds j) clock) }, Im, ρ, ?_, fin _ (es.eraseIdxIfInBounds j) rfl (by rw [he]; exact hbo.erase j) (by rw [he, h1]; exact MapR_erase j hm), ⟨#[], rfl, VRs_nil.2 rfl⟩⟩
          unfold Builtin.delete_
          simp only [hts, e0, e1, Sem.run_bind, run_underlying hu, Result.andThen_ok, MapKept.run_getObj_map hg, hchk, hfind, Option.map_some, MapKept.run_setObj_map _ hg, Sem.run_pure]
      · cases h
    · cases h
  · cases h

theorem opClear_ok {nb t x a d} (h : (opClear P m t x).get = some d) (hr : RS w Im ρ m) (hx : VR w Im ρ x a) (ts : Array TypeId) (hts : ts[0]? = some t) (ty : TypeId) :
    Does nb Im ρ m w P d (Builtin.clear_ ts ty #[a]) := by
  unfold opClear at h
  split at h
  · rename_i e r sz off len hst0
    have hst : P.underlying t = some (.slice e) := by
      unfold elemT at hst0
      split at hst0
      · rename_i e' hu; cases hst0; exact hu
      · cases hst0
    split at h
    · rename_i z e' sz' ty' xs hz hl
      split at h
      · rename_i q hdec
        split at h
        · rename_i hc
          obtain ⟨h1, rfl, hat, hzl, hp⟩ := hc
          obtain ⟨_, rfl⟩ := get_val h
          obtain ⟨zv, i, hzrun, hi, hz', hvz, hone⟩ := zero_cells hz hat hr
          have hq : VRs w Im ρ (enc ty' q) zv.cells.toList := by
            have := dec_ok hdec hvz
            rwa [List.append_nil] at this
          have hzs : zv.cells.size = sz := by rw [h1, ← hzl, ← Array.length_toList]; exact VRs_len hvz
          obtain ⟨hsz, hok, hrow⟩ := hr.row _ _ hl
          have e0 : (#[a])[0]? = some a := rfl
          have same : xs.take off ++ (List.replicate len q ++ xs.drop (off + len)) = xs → ∀ A c, a = .slice A 0 c →
              Does nb Im ρ m w P ⟨.tup [], [(r, some ⟨e', sz, .list ty' (xs.take off ++ (List.replicate len q ++ xs.drop (off + len)))⟩)], [r]⟩ (Builtin.clear_ ts ty #[a]) := by
            rintro hsame A c rfl
            refine ⟨.tuple #[], w, Im, ρ, ?_, ?_, ⟨#[], rfl, VRs_nil.2 rfl⟩⟩
            · unfold Builtin.clear_
              simp only [hts, e0, Sem.run_bind, run_underlying hst, Result.andThen_ok]
              cases A <;> rfl
            · rw [hsame]
              have hE := Eff.none (nb := nb) hr
              have he : ∀ q', look (putR m r ⟨e', sz, .list ty' xs⟩) q' = look m q' := by
                intro q'
                rw [look_put]
                by_cases e1 : r = q'
                · subst e1; rw [if_pos rfl]; exact hl.symm
                · rw [if_neg e1]
              exact ⟨⟨fun q' x hx => hr.row q' x (by rw [← he]; exact hx), fun q' hx => hr.gone q' (by rw [← he]; exact hx), hr.inj, hr.noim, hr.imlt, hr.gd⟩, hE.kp, hE.ext, hE.imI, hE.imN, hE.own, hE.born⟩
          cases hρ : ρ r with
          | unborn => rw [hρ] at hrow; exact hrow.elim
          | gone => rw [hρ] at hrow; exact hrow.elim
          | virt =>
            rw [hρ] at hrow
            simp only [VR, hρ] at hx
            obtain ⟨rfl, rfl, A, rfl⟩ := hx
            exact same (by simp) A 0 rfl
          | blk g n cap =>
            rw [hρ] at hrow
            simp only [VR, hρ] at hx
            obtain ⟨hle, A, c, rfl, hlc, hA⟩ := hx
            by_cases h0 : len = 0
            · subst h0
              exact same (by simp) A c rfl
            · obtain rfl := hA (by omega)
              obtain ⟨cur, fr, hh, hnf, hcn, hn, hmx, hs, hv⟩ := BOK.cells hrow (.inr rfl)
              have hcn' : xs.length = n := hcn
              have hcz : csz ty' = sz := hok
              simp only at hs hv hsz
              have hus : (Builtin.zeroCells zv.cells len).toList = (List.replicate len zv.cells.toList).flatten := made_flat zv.cells len
              have huslen : (Builtin.zeroCells zv.cells len).toList.length = len * sz := by
                rw [hus, List.length_flatten]
                simp [hzs]
              have hle1 : (off + len) * sz ≤ n * sz := Nat.mul_le_mul_right _ hle
              have hle2 : n * sz ≤ cap * sz := Nat.mul_le_mul_right _ hn
              rw [Nat.add_mul] at hle1
              have hrun := run_storeCells_nf P g (off * sz) e' fr (Builtin.zeroCells zv.cells len).toList 0 cur w hh hnf (by rw [huslen]; omega) (by
                intro u hu
                rw [hus, List.mem_flatten] at hu
                obtain ⟨l, hl1, hl2⟩ := hu
                rw [List.mem_replicate] at hl1
                rw [hl1.2] at hl2
                exact hone u hl2)
              simp only [Nat.add_zero] at hrun
              have hse : (cur.toList.take (off * sz) ++ (Builtin.zeroCells zv.cells len).toList ++ cur.toList.drop (off * sz + (Builtin.zeroCells zv.cells len).toList.length)).toArray.size = cur.size := by
                simp only [List.size_toArray, List.length_append, List.length_take, List.length_drop, huslen, Array.length_toList]
                omega
              have hset := Eff.set (nb := nb) (y := ⟨e', sz, .list ty' (xs.take off ++ (List.replicate len q ++ xs.drop (off + len)))⟩) hr hl hρ (w' := w.setRow g (cur.toList.take (off * sz) ++ (Builtin.zeroCells zv.cells len).toList ++ cur.toList.drop (off * sz + (Builtin.zeroCells zv.cells len).toList.length)).toArray)
                (setRow_heap w g cur _ e' fr hh) (by rw [hse]; exact hnf) (kp_setRow _ _ _) hsz hok
                (by show (xs.take off ++ (List.replicate len q ++ xs.drop (off + len))).length = n; simp only [List.length_append, List.length_take, List.length_replicate, List.length_drop]; omega) hn hmx (by rw [hse]; exact hs)
                (by
                  show VRs w Im ρ ((xs.take off ++ (List.replicate len q ++ xs.drop (off + len))).flatMap (enc ty')) ((cur.toList.take (off * sz) ++ (Builtin.zeroCells zv.cells len).toList ++ cur.toList.drop (off * sz + (Builtin.zeroCells zv.cells len).toList.length)).take (n * sz))
                  rw [take_mid _ _ _ _ (by rw [huslen]; omega), huslen, List.flatMap_append, List.flatMap_append, List.append_assoc]
                  have hv' : VRs w Im ρ (xs.flatMap (enc ty')) (cur.toList.take (n * sz)) := hv
                  refine VRs_append ?_ (VRs_append ?_ ?_)
                  · have := VRs_sub hv' (off := 0) (len := off) (by omega)
                    simpa [hcz] using this
                  · rw [enc_rep, hus]
                    exact VRs_rep hq len
                  · have := VRs_sub hv' (off := off + len) (len := xs.length - (off + len)) (by omega)
                    rw [List.take_of_length_le (by simp), hcz, Nat.add_mul, List.take_of_length_le (by
                      simp only [List.length_drop, List.length_take, Array.length_toList]
                      rw [Nat.sub_mul, Nat.add_mul, hcn']
                      omega)] at this
                    exact this) rfl
              refine ⟨.tuple #[], _, Im, ρ, ?_, hset, ⟨#[], rfl, VRs_nil.2 rfl⟩⟩
              unfold Builtin.clear_
              obtain ⟨k, rfl⟩ : ∃ k, len = k + 1 := ⟨len - 1, by omega⟩
              simp only [hts, e0, Sem.run_bind, run_underlying hst, Result.andThen_ok, hzrun, hrun, Sem.run_pure]
        · cases h
      · cases h
    · cases h
  · cases h

theorem opMClone_ok {nb l vs d} (h : (opMClone m nb l).get = some d) (hr : RS w Im ρ m) (hv : VRs w Im ρ l vs) (hf : ∀ q, nb ≤ q → q < nb + 64 → ρ q = .unborn) : Does nb Im ρ m w P d (Extern.MapsClone.clone vs.toArray) := by
  unfold opMClone at h
  split at h
  · rename_i t r
    split at h
    · rename_i e sz k v xs hl
      obtain ⟨_, rfl⟩ := get_val h
      obtain ⟨u, rfl, hu⟩ := VRs_one.1 hv
      obtain ⟨a, rfl, ha⟩ := hu
      obtain ⟨g, cap, es, clock, hρ, rfl, hg, hbo, hm, h0⟩ := map_at hr hl ha
      have hrun : (Extern.MapsClone.clone #[.iface t (.map (some g))]).run P w = .ok (.iface t (.map (some w.heap.size))) (w.alloc (.map es clock)) := by
        have e : Extern.MapsClone.clone #[.iface t (.map (some g))] = (getObj g >>= fun o => match o with
          | .map entries clock => (newObj (.map entries clock) >>= fun n => pure (.iface t (.map (some n))))
          | _ => stuck "maps.clone: a map expected") := rfl
        rw [e]
        simp only [Sem.run_bind, MapKept.run_getObj_map hg, Result.andThen_ok]
        rfl
      refine ⟨_, _, Im, upd ρ nb (.blk w.heap.size 0 0), hrun, ?_, ⟨.map (some w.heap.size), rfl, ?_⟩⟩
      · refine Eff.newB hr (hf nb (Nat.le_refl _) (by omega)) ⟨Nat.le_refl _, by omega⟩ h0 (by simp [Row.okc]) (kp_alloc _ _) (Nat.le_refl _) fun hk' ρ' _ _ => ?_
        exact ⟨rfl, es, clock, (MapKept.heap_alloc w _).1, hbo, MapR_mono (fun b hb => hr.im_same hk' b hb) (fun _ h => h) hm⟩
      · simp only [VR, upd_same]
        rfl
    · cases h
  · cases h

theorem isMClone_run {f : FuncId} (h : isMClone P f = true) (x : Array Value) : (callFunc f x).run P w = (do let v ← Extern.MapsClone.clone x; pure (Next.value v) : Sem Next).run P w := by
  unfold isMClone at h
  split at h
  · rename_i fn hf
    simp only [Bool.and_eq_true, beq_iff_eq] at h
    obtain ⟨hb, hn, ho⟩ := h
    have e1 : (Extern.allNextRows.lookup "maps.clone").isNone = true := by kernel_rfl
    have e2 : (Extern.allNextRows.lookup "").isNone = true := by kernel_rfl
    have e3 : (Extern.allGenericRows.lookup "maps.clone").isNone = true := by kernel_rfl
    have e4 : (Extern.allTypedRows.lookup "maps.clone").isNone = true := by kernel_rfl
    have e5 : Extern.allRows.lookup "maps.clone" = some Extern.MapsClone.clone := by kernel_rfl
    rw [Option.isNone_iff_eq_none] at e1 e2 e3 e4
    have h1 : Extern.findNext fn = none := by
      unfold Extern.findNext
      simp only [hn, ho, e1, e2]
      rfl
    have h2 : Extern.find fn = some Extern.MapsClone.clone := by
      unfold Extern.find
      simp only [hn, e3, e4, e5]
      rfl
    rw [run_callFunc_extern hf (by simp [hn]) hb h1 h2]
    simp only [Sem.run_bind, Sem.run_pure]
  · cases h

/-! ### Tables -/
theorem gtLook_mem {g : Nat} {t : GTab} : ∀ {l : List (Nat × GTab)}, gtLook l g = some t → (g, t) ∈ l
  | [], h => by cases h
  | (k, v) :: l, h => by
    simp only [gtLook] at h
    split at h
    · rename_i e; subst e; cases h; simp
    · exact List.mem_cons_of_mem _ (gtLook_mem h)

theorem tab_at {g : Nat} {t : GTab} (h : gtLook GT g = some t) {n : Nat} (hn : n < t.len) (w : World) (Im : Nat → Prop) (ρ : Nat → Loc) : ∃ u, t.vals[n]? = some u ∧ VR w Im ρ (t.cell g n) u := by
  cases t with
  | ints k l =>
    simp only [GTab.len] at hn
    refine ⟨.int k l[n], by simp [GTab.vals, hn], ?_⟩
    simp only [GTab.cell, gint, h, VR]
    simp [List.getD, hn]
  | strs l =>
    simp only [GTab.len] at hn
    refine ⟨.string l[n], by simp [GTab.vals, hn], ?_⟩
    simp only [GTab.cell, gstr, h, VR]
    simp [List.getD, hn]

theorem VRs_of {w : World} {Im : Nat → Prop} {ρ : Nat → Loc} : ∀ {l : List AV} {us : List Value}, l.length = us.length → (∀ (j : Nat) (x : AV) (u : Value), l[j]? = some x → us[j]? = some u → VR w Im ρ x u) → VRs w Im ρ l us
  | [], [], _, _ => VRs_nil.2 rfl
  | x :: l, [], h, _ => by simp at h
  | [], u :: us, h, _ => by simp at h
  | x :: l, u :: us, h, hj => VRs_cons.2 ⟨u, us, rfl, hj 0 x u rfl rfl, VRs_of (by simpa using h) (fun j y v h1 h2 => hj (j + 1) y v (by simpa using h1) (by simpa using h2))⟩

theorem vals_len (t : GTab) : t.vals.length = t.len := by cases t <;> simp [GTab.vals, GTab.len]

theorem run_indexAt_array {P : Program} (w : World) (t : TypeId) (k : IntKind) (i : Int) (n : Nat) (e : TypeId) (a : Addr) (hu : P.underlying t = some (.array n e)) (hp : 0 < P.cellsOf e) (h : 0 ≤ i ∧ i < (n : Int)) :
    (Instr.indexAt t (.pointer (some a)) (.int k i)).run P w = .ok (.pointer (some (a.add (i.toNat * P.cellsOf e)))) w := by
  simp [Instr.indexAt, Sem.run_bind, run_underlying hu, Result.andThen_ok, asIntOf, Instr.sureAddr, h.1, h.2, cellsOf_run hp]

theorem opIndexG_ok {P : Program} {w : World} {Im : Nat → Prop} {ρ : Nat → Loc} {m : Rows} {t : TypeId} {g : Nat} {i : AV} {b : Value} {d : Dl} (h : (opIndexG P t g i).get = some d) (hr : RS w Im ρ m) (hi : VR w Im ρ i b) : Quiet w Im ρ P d (Instr.indexAt t (.pointer (some ⟨g, 0, none⟩)) b) := by
  unfold opIndexG at h
  split at h
  · rename_i n e k i tab hu htab
    obtain rfl := hi
    split at h
    · rename_i hc0
      obtain ⟨hp, hn⟩ := hc0
      obtain ⟨hc, rfl⟩ := get_val h
      have hc' := inRange_spec hc
      obtain ⟨hgb, l, z, hcells⟩ := gt_of hr.gd.gw (gtLook_mem htab)
      have hlt : i.toNat * P.cellsOf e + P.cellsOf e ≤ tab.len := by
        rw [← hn]
        have : i.toNat + 1 ≤ n := by omega
        have := Nat.mul_le_mul_right (P.cellsOf e) this
        rw [Nat.add_mul] at this
        omega
      refine ⟨rfl, .pointer (some ((⟨g, 0, none⟩ : Addr).add (i.toNat * P.cellsOf e))), run_indexAt_array w t k i n e _ hu hp hc', ?_⟩
      refine ⟨_, (tab.vals.drop (i.toNat * P.cellsOf e)).take (P.cellsOf e), rfl, by rw [add_block]; exact hr.gd.im g hgb, addr_spot rfl _, VRs_of (by simp [vals_len]; omega) ?_, ?_⟩
      · intro j x u h1 h2
        simp only [List.getElem?_map, Option.map_eq_some_iff] at h1
        obtain ⟨j', hj', rfl⟩ := h1
        have hjj : j' = j ∧ j < P.cellsOf e := by
          have := List.getElem?_eq_some_iff.1 hj'
          obtain ⟨hl, e1⟩ := this
          simp at hl e1
          exact ⟨e1.symm, hl⟩
        obtain ⟨rfl, hj⟩ := hjj
        rw [List.getElem?_take_of_lt hj, List.getElem?_drop] at h2
        obtain ⟨u', hu1, hu2⟩ := tab_at htab (n := i.toNat * P.cellsOf e + j') (by omega) w Im (fun _ => .gone)
        rw [hu1] at h2
        cases h2
        exact hu2
      · intro j u h2
        have hj : j < P.cellsOf e := by
          have := (List.getElem?_eq_some_iff.1 h2).1
          simp at this
          omega
        rw [List.getElem?_take_of_lt hj, List.getElem?_drop] at h2
        rw [addr_add2 rfl, addr_add]
        unfold World.cell?
        simp only
        rw [hcells]
        simpa using h2
    · cases h
  · cases h

theorem opIA_ok {P : Program} {w : World} {Im : Nat → Prop} {ρ : Nat → Loc} {m : Rows} {t : TypeId} {xo : Operand} {x i : Option AV} {a b : Value} {d : Dl} (h : (opIA P m t (globalOf xo) x i).get = some d) (hr : RS w Im ρ m) (hx : ∀ u, x = some u → VR w Im ρ u a)
    (ha : ∀ g, xo = .global g → a = .pointer (some ⟨g, 0, none⟩)) (hi : ∀ u, i = some u → VR w Im ρ u b) : Quiet w Im ρ P d (Instr.indexAt t a b) := by
  unfold opIA at h
  split at h
  · rename_i g i hg
    have : xo = .global g := by
      unfold globalOf at hg
      split at hg
      · cases hg; rfl
      · cases hg
    rw [ha g this]
    exact opIndexG_ok h hr (hi _ rfl)
  · split at h
    · rename_i n e hu
      exact opIndexArr_ok hu h hr (hx _ rfl) (hi _ rfl)
    · exact opIndexAddr_ok h hr (hx _ rfl) (hi _ rfl)
  · cases h

theorem decs_ok {w : World} {Im : Nat → Prop} {ty : Ty} : ∀ {n : Nat} {l : List AV} {xs : List (El ty)} {us : List Value}, decs ty n l = some xs → VRs w Im (fun _ => .gone) l us → xs.length = n ∧ ∀ i (h : i < xs.length), ∃ vs, IR w Im ty xs[i] vs ∧ ∀ j u, vs[j]? = some u → us[i * csz ty + j]? = some u
  | 0, l, xs, us, h, hv => by
    cases h
    exact ⟨rfl, fun i hi => by simp at hi⟩
  | n + 1, l, xs, us, h, hv => by
    simp only [decs] at h
    split at h
    · rename_i x r hd
      split at h
      · rename_i ys hy
        cases h
        have hv2 := dec_ok hd hv
        obtain ⟨u1, u2, rfl, h1, h2⟩ := VRs_split hv2
        have hir := enc_VRs.1 h1
        have hlen := IR_len hir
        obtain ⟨hl, ih⟩ := decs_ok hy h2
        refine ⟨by simp [hl], fun i hi => ?_⟩
        cases i with
        | zero =>
          refine ⟨u1, hir, fun j u hj => ?_⟩
          have : j < u1.length := (List.getElem?_eq_some_iff.1 hj).1
          rw [Nat.zero_mul, Nat.zero_add, List.getElem?_append_left this]
          exact hj
        | succ i =>
          obtain ⟨vs, e1, e2⟩ := ih i (by simpa using hi)
          refine ⟨vs, e1, fun j u hj => ?_⟩
          have := e2 j u hj
          rw [List.getElem?_append_right (by rw [hlen, Nat.add_mul]; omega), hlen]
          rw [show (i + 1) * csz ty + j - csz ty = i * csz ty + j by rw [Nat.add_mul]; omega]
          exact this
      · cases h
    · cases h

theorem opSliceX_ok {P : Program} {w : World} {Im : Nat → Prop} {ρ : Nat → Loc} {m : Rows} {t x a lo hi mx lo' hi' mx' d} (h : (opSliceX P m t x lo hi mx).get = some d) (hr : RS w Im ρ m) (hx : VR w Im ρ x a)
    (hlo : OptVR w Im ρ lo lo') (hhi : OptVR w Im ρ hi hi') (hmx : OptVR w Im ρ mx mx') :
    Quiet w Im ρ P d (Instr.sliceAt t a lo' hi' mx') := by
  unfold opSliceX at h
  split at h
  · rename_i n e hu
    split at h
    · rename_i l ty hty
      obtain rfl : lo' = none := by cases lo' with | none => rfl | some _ => exact False.elim hlo
      obtain rfl : hi' = none := by cases hi' with | none => rfl | some _ => exact False.elim hhi
      obtain rfl : mx' = none := by cases mx' with | none => rfl | some _ => exact False.elim hmx
      split at h
      · rename_i hsz
        split at h
        · rename_i xs hxs
          obtain rfl := get_pure h
          have hp : 0 < P.cellsOf e := by have := csz_pos ty; omega
          obtain ⟨ad, us, rfl, him, hsp, hvs, hc⟩ := hx
          obtain ⟨hl, hel⟩ := decs_ok hxs hvs
          have hadd : ∀ n, (ad.add 0).add n = ad.add n := fun n => by simp [Addr.add]
          refine ⟨rfl, .slice (some (if n = 0 then ad else ad.add (0 * P.cellsOf e))) (n - 0) (n - 0), ?_, ?_⟩
          · simp [Instr.sliceAt, Sem.run_bind, run_underlying hu, Result.andThen_ok, Instr.sureAddr, Instr.sliceBounds, cellsOf_run hp]
          · refine ⟨some (if n = 0 then ad else ad.add (0 * P.cellsOf e)), n, by simp [hl], by omega, fun hne => ⟨_, rfl, ?_, ?_, fun i hi => ?_⟩⟩
            · split
              · exact him
              · rw [add_block]; exact him
            · split
              · exact hsp
              · exact addr_spot hsp _
            · obtain ⟨vs, e1, e2⟩ := hel i hi
              refine ⟨vs, e1, fun j u hj => ?_⟩
              have hn0 : n ≠ 0 := by omega
              rw [if_neg hn0, add_addr0 hsp]
              exact hc _ _ (e2 j u hj)
        · cases h
      · cases h
    · cases h
  · exact opSlice_ok h hr hx hlo hhi hmx
where
  add_addr0 {ad : Addr} (hs : ad.spot = none) {k n : Nat} : (ad.add (0 * k)).add n = ad.add n := by
    simp [Addr.add, hs]
end Go.Proofs.YtfogafinohfpfaaGreatDoorV
