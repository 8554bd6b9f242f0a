/- What is kept, and the code of a function. -/
import Derived.Test.YtfogafinohfpfaaGreatDoorVp
import Derived.LoopNIn
namespace Go.Proofs.YtfogafinohfpfaaGreatDoorV
open Go.RowKit
set_option linter.unusedVariables false
set_option linter.unusedSimpArgs false

theorem look_rowsAt' {m : Rows} (f : Nat → Option Nat) : ∀ (l : List Nat) (i k : Nat), look (rowsAt m f i l) k = if i ≤ k ∧ k < i + l.length then ((l[k - i]?).bind (look m)).map (Row.ren f) else none
  | [], i, k => by simp [rowsAt, look]
  | r :: l, i, k => by
    have ih := look_rowsAt' f l (i + 1) k (m := m)
    have e2 : ∀ (a : Nat), i < a → (r :: l)[a - i]? = l[a - (i + 1)]? := by
      intro a ha
      have : a - i = (a - (i + 1)) + 1 := by omega
      rw [this, List.getElem?_cons_succ]
    simp only [rowsAt]
    cases hrow : look m r with
    | none =>
      simp only [ih, List.length_cons]
      by_cases hk : i = k
      · subst hk
        rw [if_neg (by omega), if_pos (by omega)]
        simp [hrow]
      · by_cases h2 : i + 1 ≤ k ∧ k < i + 1 + l.length
        · rw [if_pos h2, if_pos (by omega), e2 k (by omega)]
        · rw [if_neg h2, if_neg (by omega)]
    | some row =>
      simp only [look, ih, List.length_cons]
      by_cases hk : i = k
      · subst hk
        rw [if_pos rfl, if_pos (by omega)]
        simp [hrow, Row.ren]
      · rw [if_neg hk]
        by_cases h2 : i + 1 ≤ k ∧ k < i + 1 + l.length
        · rw [if_pos h2, if_pos (by omega), e2 k (by omega)]
        · rw [if_neg h2, if_neg (by omega)]

theorem look_app : ∀ (a b : Rows) (q : Nat), look (a ++ b) q = match look a q with | some x => some x | none => look b q
  | [], b, q => rfl
  | (k, v) :: a, b, q => by
    simp only [List.cons_append, look]
    by_cases e : k = q
    · simp [e]
    · simp only [if_neg e]; exact look_app a b q

theorem reachD_ok {m : Rows} : ∀ (n : Nat) (q seen : List Nat), (∀ r ∈ seen, (look m r).isSome = true) → seen.Nodup → (∀ r ∈ reachD m n q seen, (look m r).isSome = true) ∧ (reachD m n q seen).Nodup
  | 0, q, seen, h1, h2 => by simpa [reachD] using ⟨h1, h2⟩
  | n + 1, [], seen, h1, h2 => by simpa [reachD] using ⟨h1, h2⟩
  | n + 1, r :: q, seen, h1, h2 => by
    simp only [reachD]
    split
    · exact reachD_ok n q seen h1 h2
    · rename_i hc
      split
      · rename_i row hrow
        refine reachD_ok n _ _ ?_ ?_
        · intro x hx
          rcases List.mem_append.1 hx with hx | hx
          · exact h1 x hx
          · simp only [List.mem_singleton] at hx; subst hx; simp [hrow]
        · rw [List.nodup_append]
          refine ⟨h2, by simp, ?_⟩
          intro a ha b hb e
          simp only [List.mem_singleton] at hb
          subst hb; subst e
          exact hc (by simpa using ha)
      · exact reachD_ok n q seen h1 h2

/-- The names that are given anew. -/
def ρN (ρ : Nat → Loc) (mm : Nat) (l : List Nat) (q : Nat) : Loc := if q < mm then ρ q else match l[q - mm]? with
  | some r => ρ r
  | none => .unborn

theorem ρN_ren {ρ : Nat → Loc} {mm : Nat} {l : List Nat} (r q : Nat) (h : renN mm l r = some q) : ρN ρ mm l q = ρ r := by
  unfold renN at h
  split at h
  · rename_i hlt
    cases h
    simp [ρN, hlt]
  · cases hi : idx l r with
    | none => simp [hi] at h
    | some j =>
      simp only [hi, Option.map_some, Option.some.injEq] at h
      subst h
      have := idx_spec hi
      simp only [ρN, Nat.add_sub_cancel_left, this]
      rw [if_neg (by omega)]

theorem ρN_lt {ρ : Nat → Loc} {mm : Nat} {l : List Nat} {q : Nat} (h : q < mm) : ρN ρ mm l q = ρ q := by simp [ρN, h]

theorem ρN_blk {ρ : Nat → Loc} {mm : Nat} {l : List Nat} {q g n c : Nat} (h : ρN ρ mm l q = .blk g n c) : (q < mm ∧ ρ q = .blk g n c) ∨ (mm ≤ q ∧ ∃ r, l[q - mm]? = some r ∧ ρ r = .blk g n c) := by
  unfold ρN at h
  split at h
  · rename_i hlt; exact .inl ⟨hlt, h⟩
  · split at h
    · rename_i r hr; exact .inr ⟨by omega, r, hr, h⟩
    · cases h

theorem RS.anew {w Im ρ m mm l} (h : RS w Im ρ m) (hl : ∀ r ∈ l, (look m r).isSome = true) (hn : l.Nodup) (hge : ∀ r ∈ l, mm ≤ r) :
    RS w Im (ρN ρ mm l) (rowsAt m (renN mm l) 0 (List.range mm) ++ rowsAt m (renN mm l) mm l) := by
  have key : ∀ q, look (rowsAt m (renN mm l) 0 (List.range mm) ++ rowsAt m (renN mm l) mm l) q =
      if q < mm then (look m q).map (Row.ren (renN mm l)) else ((l[q - mm]?).bind (look m)).map (Row.ren (renN mm l)) := by
    intro q
    rw [look_app, look_rowsAt', look_rowsAt']
    by_cases e : q < mm
    · have h1 : 0 ≤ q ∧ q < 0 + (List.range mm).length := by simp; omega
      rw [if_pos h1, if_pos e, if_neg (by omega)]
      simp only [Nat.sub_zero, List.getElem?_range e, Option.bind_some]
      cases look m q <;> rfl
    · have h1 : ¬ (0 ≤ q ∧ q < 0 + (List.range mm).length) := by simp; omega
      rw [if_neg h1, if_neg e]
      simp only
      by_cases e2 : q < mm + l.length
      · rw [if_pos (by omega)]
      · rw [if_neg (by omega), List.getElem?_eq_none (by omega)]; rfl
  refine ⟨?_, ?_, ?_, ?_, h.imlt, h.gd⟩
  · intro q x hx
    rw [key] at hx
    split at hx
    · rename_i hlt
      cases hq : look m q with
      | none => simp [hq] at hx
      | some row =>
        simp only [hq, Option.map_some, Option.some.injEq] at hx
        subst hx
        exact RowOK.ren (h.row _ _ hq) ρN_ren (ρN_lt hlt) (.inl fun _ h => h)
    · rename_i hge'
      cases hr : l[q - mm]? with
      | none => simp [hr] at hx
      | some r =>
        simp only [hr, Option.bind_some] at hx
        cases hq : look m r with
        | none => simp [hq] at hx
        | some row =>
          simp only [hq, Option.map_some, Option.some.injEq] at hx
          subst hx
          exact RowOK.ren (h.row _ _ hq) ρN_ren (by simp [ρN, hge', hr]) (.inl fun _ h => h)
  · intro q hq
    rw [key] at hq
    split at hq
    · rename_i hlt
      rw [ρN_lt hlt]
      refine h.gone q ?_
      cases hq' : look m q with
      | none => rfl
      | some row => simp [hq'] at hq
    · rename_i hge'
      cases hr : l[q - mm]? with
      | none => right; simp [ρN, hge', hr]
      | some r =>
        obtain ⟨row, hrow⟩ := Option.isSome_iff_exists.1 (hl r (List.mem_of_getElem? hr))
        simp [hr, hrow] at hq
  · intro a b g n c n' c' e1 e2
    rcases ρN_blk e1 with ⟨h1, e1⟩ | ⟨h1, r1, l1, e1⟩ <;> rcases ρN_blk e2 with ⟨h2, e2⟩ | ⟨h2, r2, l2, e2⟩
    · exact h.inj _ _ _ _ _ _ _ e1 e2
    · have := h.inj _ _ _ _ _ _ _ e1 e2
      have := hge r2 (List.mem_of_getElem? l2)
      omega
    · have := h.inj _ _ _ _ _ _ _ e1 e2
      have := hge r1 (List.mem_of_getElem? l1)
      omega
    · have := h.inj _ _ _ _ _ _ _ e1 e2
      subst this
      obtain ⟨b1, b2⟩ := List.getElem?_eq_some_iff.1 l1
      obtain ⟨b3, b4⟩ := List.getElem?_eq_some_iff.1 l2
      have := (List.getElem_inj hn).1 (b2.trans b4.symm)
      omega
  · intro a g n c e1
    rcases ρN_blk e1 with ⟨h1, e1⟩ | ⟨h1, r1, l1, e1⟩
    · exact h.noim _ _ _ _ e1
    · exact h.noim _ _ _ _ e1

theorem ρN_own {ρ : Nat → Loc} {mm : Nat} {l : List Nat} {b : Nat} (h : ownB (ρN ρ mm l) b) : ownB ρ b := by
  obtain ⟨q, n, c, e⟩ := h
  rcases ρN_blk e with ⟨h1, e1⟩ | ⟨h1, r1, l1, e1⟩
  · exact ⟨_, _, _, e1⟩
  · exact ⟨_, _, _, e1⟩

theorem VRs_keep {w Im ρ} : ∀ (i : Nat) (ks : List Nat) (l : List AV) (vs : List Value), VRs w Im ρ l vs → VRs w Im ρ (keepL i ks l) vs
  | _, _, [], vs, h => by simpa [keepL] using h
  | i, [], x :: l, vs, h => by
    obtain ⟨v, r, rfl, h1, h2⟩ := VRs_cons.1 h
    exact VRs_cons.2 ⟨v, r, rfl, trivial, VRs_keep (i + 1) [] l _ h2⟩
  | i, q :: ks, x :: l, vs, h => by
    obtain ⟨v, r, rfl, h1, h2⟩ := VRs_cons.1 h
    simp only [keepL]
    split
    · exact VRs_cons.2 ⟨v, r, rfl, h1, VRs_keep (i + 1) ks l _ h2⟩
    · exact VRs_cons.2 ⟨v, r, rfl, trivial, VRs_keep (i + 1) (q :: ks) l _ h2⟩

theorem keepL_len : ∀ (i : Nat) (ks : List Nat) (l : List AV), (keepL i ks l).length = l.length
  | _, _, [] => by simp [keepL]
  | i, [], x :: l => by simp [keepL, keepL_len (i + 1) [] l]
  | i, q :: ks, x :: l => by
    simp only [keepL]
    split <;> simp [keepL_len]

theorem reach_filter {m : Rows} {mm n : Nat} {q : List Nat} : let l := (reachD m n q []).filter fun r => !decide (r < mm)
    (∀ r ∈ l, (look m r).isSome = true) ∧ l.Nodup ∧ ∀ r ∈ l, mm ≤ r := by
  obtain ⟨h1, h2⟩ := reachD_ok (m := m) n q [] (by simp) (by simp)
  refine ⟨fun r hr => h1 r (List.mem_filter.1 hr).1, h2.filter _, fun r hr => ?_⟩
  have := (List.mem_filter.1 hr).2
  simpa using this

theorem norm_sound {c Im ρ a w} {mm : Nat} {keep : List Nat} {st : St} (hmm : c.mm = mm) (h : SR c Im ρ st.t st.m a w) :
    ∃ ρ', SR c Im ρ' (norm mm keep st).t (norm mm keep st).m a w ∧ mm ≤ (norm mm keep st).nx ∧ ∀ q, (norm mm keep st).nx ≤ q → ρ' q = .unborn := by
  obtain ⟨h1, h2, h3⟩ := reach_filter (m := st.m) (mm := mm) (n := 200) (q := List.range mm ++ AV.refsL (keepL 0 keep st.t))
  unfold norm
  simp only
  generalize (reachD st.m 200 (List.range mm ++ AV.refsL (keepL 0 keep st.t)) []).filter (fun r => !decide (r < mm)) = l at *
  refine ⟨ρN ρ mm l, ⟨h.rs.anew h1 h2 h3, ?_, ?_, h.df.step (Kp.refl _ _) (fun _ h => .inl h) (fun b hb => .inr (ρN_own hb)), h.kp, h.im0, h.imn, fun b hb => h.own b (ρN_own hb), fun q hq => ?_⟩, by omega, fun q hq => ?_⟩
  · rw [renL_len, keepL_len]; exact h.sz
  · exact VRs_ren ρN_ren _ _ (VRs_keep _ _ _ _ h.tm)
  · rw [ρN_lt (by omega)]; exact h.root q hq
  · unfold ρN
    rw [if_neg (by omega), List.getElem?_eq_none (by omega)]

/-! ### A draw -/
theorem VRs_heap {w w' : World} {Im ρ} {l vs} (hw : w'.heap = w.heap) (h : VRs w Im ρ l vs) : VRs w' Im ρ l vs :=
  VRs_mono (fun _ _ => by rw [hw]) (fun _ h => h) (Ext.refl _) _ _ h

theorem RS.heap {w w' : World} {Im ρ m} (hw : w'.heap = w.heap) (h : RS w Im ρ m) : RS w' Im ρ m := by
  refine ⟨fun r x hx => ?_, h.gone, h.inj, h.noim, fun b hb => (by rw [hw]; exact h.imlt b hb), ⟨h.gd.im, GW_of (fun b _ => by rw [hw]) h.gd.gw⟩⟩
  obtain ⟨h1, h2, h3⟩ := h.row r x hx
  refine ⟨h1, h2, ?_⟩
  cases e : ρ r with
  | unborn => rw [e] at h3; exact h3
  | gone => rw [e] at h3; exact h3
  | virt => rw [e] at h3; exact h3
  | blk g n cap =>
    rw [e] at h3
    exact h3.mono (fun _ _ => by rw [hw]) (fun _ h => h) (Ext.refl _) (by rw [hw])

theorem SR.draw {c Im ρ t m a w} (h : SR c Im ρ t m a w) : SR c Im ρ t m a { w with drawn := w.drawn + 1 } :=
  ⟨RS.heap (w := w) rfl h.rs, h.sz, VRs_heap (w := w) rfl h.tm, h.df.step (w' := { w with drawn := w.drawn + 1 }) ⟨rfl, rfl, rfl, Nat.le_refl _, fun _ _ _ => rfl⟩ (fun _ h => .inl h) (fun _ h => .inr h), ⟨h.kp.os, h.kp.tape, h.kp.output, h.kp.size, h.kp.blk⟩, h.im0, h.imn, h.own, h.root⟩

/-! ### Code -/
theorem draw_sound {cx : Cx} (hD : DOK cx) {rd : Option Nat} (hm : cx.P.follows .mixedOrders = true) {c : Cst} {ops : Array Oper} {id nx : Nat} (hmm : c.mm ≤ nx) (hok : apartOK ops (Region.before ops) = true)
    {R : Type} {k : List AV → Rows → Option R} {kp : AV → List AV → Rows → Option R} {r : R} {Q : Exit → Act → World → Prop} {t : List AV} {m : Rows} {Im ρ a w}
    (hk : ∀ t' m' Im' ρ' a' w', k t' m' = some r → SR c Im' ρ' t' m' a' w' → (∀ q, nx + 64 * ops.size ≤ q → ρ' q = .unborn) → Q .normal a' w')
    (hp : ∀ v u t' m' Im' ρ' a' w', kp v t' m' = some r → SR c Im' ρ' (v :: t') m' { a' with tmps := #[u] ++ a'.tmps } w' → (∀ q, nx + 64 * ops.size ≤ q → ρ' q = .unborn) → Q (.panic [{ v := u, recovered := false }]) a' w')
    (h : runDraw cx ops (Region.before ops) nx kp 0 ops.toList [] t m k = some r) (hs : SR c Im ρ t m a w) (hf : ∀ q, nx ≤ q → ρ q = .unborn) : (Code.region id ops true).wpIn (FW rd) 0 cx.P Q a w := by
  obtain ⟨es, t', m', h1, h2, hge, h4, h5⟩ := runDraw_tr ops.toList 0 [] t m rfl (by simp) h
  refine wpIn_region_any hm ?_
  rcases h2 with ⟨h2, h3⟩ | ⟨o, d, h3, ho, hg, hd, hmp, hw, _, hq, hkp⟩
  case inr =>
    simp only [Nat.zero_add] at ho hd hw hq
    have hlt := (Array.getElem?_eq_some_iff.1 ho).1
    have hmap : ∀ i, i ∈ es.map (·.1) ↔ i < es.length := by
      intro i
      rw [h3]
      simp [List.mem_range']
    refine wpAny_trP hD hmm hok ho hmp hw (tk := killL ops.toList t') (mp := upR m' d.up) (fun u Im' ρ' a' w' hs' hf' => hp d.v u _ _ Im' ρ' a' w' hkp hs' hf') ops.size (List.range ops.size) es t m t' m' _ Im ρ a _ (by simp) (fun i hi _ => List.mem_range.2 hi) h1 hg hd rfl (fun _ => rfl) hq (fun p hp => (hmap p.1).1 (List.mem_map.2 ⟨p, hp, rfl⟩)) h4 (by simp) ?_ (by simp [Array.getD_eq_getD_getElem?, Array.getElem?_replicate, hlt]) ?_ hs.draw ?_ (fun q hq => hf q (by omega))
    · intro i hi
      rw [hmap]
      have : i < ops.size := by omega
      simp [Array.getD_eq_getD_getElem?, Array.getElem?_replicate, this, hi]
    · intro i hi hh
      simp [Array.getD_eq_getD_getElem?, Array.getElem?_replicate, hi] at hh
    · intro i hi _ q h1 h2
      exact hf q (by omega)
  have hmap : ∀ i, i ∈ es.map (·.1) ↔ i < ops.size := by
    intro i
    rw [h3]
    simp [List.mem_range']
  have hlen : es.length = ops.size := by
    have := congrArg List.length h3
    simpa using this
  refine wpAny_tr hD hmm hok (t' := t') (m' := m') (fun Im' ρ' a' w' hs' hf' => hk t' m' Im' ρ' a' w' h2 hs' hf') ops.size es t m m' _ Im ρ a _ hlen h1 (fun _ => rfl) h4 (by simp) ?_ ?_ hs.draw ?_ (fun q hq => hf q (by omega))
  · intro i hi
    rw [hmap]
    simp [Array.getD_eq_getD_getElem?, Array.getElem?_replicate, hi]
  · intro i hi hh
    simp [Array.getD_eq_getD_getElem?, Array.getElem?_replicate, hi] at hh
  · intro i hi q h1 h2
    exact hf q (by omega)
end Go.Proofs.YtfogafinohfpfaaGreatDoorV
