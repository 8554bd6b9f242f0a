/- The code of a function, and a call of it. -/
import Derived.Test.YtklnpdnfjponpaaDoorVq
namespace Go.Proofs.YtklnpdnfjponpaaDoorV
open Go.RowKit
set_option linter.unusedVariables false
set_option linter.unusedSimpArgs false

/-- What is asked of what follows. -/
def Next {R : Type} (A : Ann) (c : Cst) (k : Exit → St → Option R) (r : R) (Q : Exit → Act → World → Prop) : Prop :=
  ∀ e st Im ρ a w, k e st = some r → A.mm ≤ st.nx → (∀ q, st.nx ≤ q → ρ q = .unborn) → SR c Im ρ st.t st.m a w → Q e a w

theorem iter_sound {A : Ann} {c : Cst} {R : Type} {P : Program} {code : Code} {F : St → (Exit → St → Option R) → Option R}
    (hc : ∀ (st : St) (k : Exit → St → Option R) (r : R) (Q : Exit → Act → World → Prop) Im ρ a w, F st k = some r → A.mm ≤ st.nx → (∀ q, st.nx ≤ q → ρ q = .unborn) → SR c Im ρ st.t st.m a w → Next A c k r Q → code.wp P Q a w) :
    ∀ (n : Nat) (st : St) (k : Exit → St → Option R) (r : R) (Q : Exit → Act → World → Prop) Im ρ a w, iter n F st k = some r → A.mm ≤ st.nx → (∀ q, st.nx ≤ q → ρ q = .unborn) → SR c Im ρ st.t st.m a w → Next A c k r Q → Code.rounds P code Q n a w
  | 0, st, k, r, Q, Im, ρ, a, w, h, _, _, _, _ => by cases h
  | n + 1, st, k, r, Q, Im, ρ, a, w, h, hnx, hf, hs, hk => by
    rw [rounds_succ]
    refine hc st _ r _ Im ρ a w h hnx hf hs ?_
    intro e st' Im' ρ' a' w' h' hnx' hf' hs'
    cases e with
    | normal => exact iter_sound hc n st' k r Q Im' ρ' a' w' h' hnx' hf' hs' hk
    | _ => exact hk _ st' Im' ρ' a' w' h' hnx' hf' hs'

/-- What the table tells of a part is so. -/
def Clause (A : Ann) (i : Nat) (p : Code) : Prop := ∀ st r y, A.L i st = some r → r.o = some y →
  if i % 2 = 1 then ∀ (R : Type) (k : Exit → St → Option R), aexec A p st (kn A i k) = r.g R y k
  else ∃ n, ∀ (R : Type) (k : Exit → St → Option R), iter n (fun s k => aexec A p s (kn A i k)) st k = r.g R y k

/-- All that the table tells of a code is so. -/
structure TOK (A : Ann) (code : Code) : Prop where
  one : ((cuts code).filter fun i => (tabAt A.tab i).isSome).Nodup
  so : ∀ i p, (tabAt A.tab i).isSome = true → findCut i code = some p → Clause A i p

theorem TOK.nil {A : Ann} (h : A.tab = []) (code : Code) : TOK A code := by
  refine ⟨?_, fun i p hi => ?_⟩
  · rw [h, List.filter_eq_nil_iff.2 (by simp [tabAt])]; exact List.nodup_nil
  · rw [h] at hi; simp [tabAt] at hi

theorem findCut_mem {i : Nat} : ∀ {c p : Code}, findCut i c = some p → i ∈ cuts c := by
  intro c
  induction c with
  | seq a b iha ihb =>
    intro p h
    simp only [findCut] at h
    simp only [cuts, List.mem_cons, List.mem_append]
    split at h
    · rename_i e; exact .inl e.symm
    · split at h
      · rename_i q hq; exact .inr (.inl (iha hq))
      · exact .inr (.inr (ihb h))
  | loop c ih =>
    intro p h
    simp only [findCut] at h
    simp only [cuts, List.mem_cons]
    split at h
    · rename_i e; exact .inl e.symm
    · exact .inr (ih h)
  | cond o x y ihx ihy =>
    intro p h
    simp only [findCut] at h
    simp only [cuts, List.mem_append]
    split at h
    · rename_i q hq; exact .inl (ihx hq)
    · exact .inr (ihy h)
  | block id c ih => intro p h; exact ih h
  | _ => intro p h; cases h

theorem nodup_app {α : Type} {l l' : List α} (h : (l ++ l').Nodup) : l.Nodup ∧ l'.Nodup ∧ ∀ x ∈ l, x ∉ l' := by
  rw [List.nodup_append] at h
  exact ⟨h.1, h.2.1, fun x hx hx' => h.2.2 x hx x hx' rfl⟩

theorem TOK.seq {A : Ann} {a b : Code} (h : TOK A (.seq a b)) : TOK A a ∧ TOK A b ∧ ((tabAt A.tab (2 * fid b + 1)).isSome = true → Clause A (2 * fid b + 1) b) := by
  have hn := h.one
  simp only [cuts, List.filter_cons, List.filter_append] at hn
  have hn' : (List.filter (fun i => (tabAt A.tab i).isSome) (cuts a) ++ List.filter (fun i => (tabAt A.tab i).isSome) (cuts b)).Nodup := by
    split at hn
    · exact (List.nodup_cons.1 hn).2
    · exact hn
  obtain ⟨ha, hb, hab⟩ := nodup_app hn'
  have hne : ∀ i, (tabAt A.tab i).isSome = true → (i ∈ cuts a ∨ i ∈ cuts b) → ¬ 2 * fid b + 1 = i := by
    intro i hi hm e
    subst e
    rw [if_pos hi] at hn
    refine (List.nodup_cons.1 hn).1 ?_
    simp only [List.mem_append, List.mem_filter]
    exact hm.imp (fun h => ⟨h, hi⟩) (fun h => ⟨h, hi⟩)
  refine ⟨⟨ha, fun i p hi hp => h.so i p hi ?_⟩, ⟨hb, fun i p hi hp => h.so i p hi ?_⟩, fun hi => h.so _ b hi ?_⟩
  · simp only [findCut]
    rw [if_neg (hne i hi (.inl (findCut_mem hp))), hp]
  · simp only [findCut]
    rw [if_neg (hne i hi (.inr (findCut_mem hp)))]
    cases hq : findCut i a with
    | none => exact hp
    | some q => exact absurd (List.mem_filter.2 ⟨findCut_mem hp, hi⟩) (hab i (List.mem_filter.2 ⟨findCut_mem hq, hi⟩))
  · simp [findCut]

theorem TOK.loop {A : Ann} {c : Code} (h : TOK A (.loop c)) : TOK A c ∧ ((tabAt A.tab (2 * fid c)).isSome = true → Clause A (2 * fid c) c) := by
  have hn := h.one
  simp only [cuts, List.filter_cons] at hn
  have hn' : (List.filter (fun i => (tabAt A.tab i).isSome) (cuts c)).Nodup := by
    split at hn
    · exact (List.nodup_cons.1 hn).2
    · exact hn
  refine ⟨⟨hn', fun i p hi hp => h.so i p hi ?_⟩, fun hi => h.so _ c hi (by simp [findCut])⟩
  simp only [findCut]
  rw [if_neg, hp]
  intro e
  subst e
  rw [if_pos hi] at hn
  exact (List.nodup_cons.1 hn).1 (List.mem_filter.2 ⟨findCut_mem hp, hi⟩)

theorem TOK.cond {A : Ann} {o : Operand} {x y : Code} (h : TOK A (.cond o x y)) : TOK A x ∧ TOK A y := by
  have hn := h.one
  simp only [cuts, List.filter_append] at hn
  obtain ⟨hx, hy, hxy⟩ := nodup_app hn
  refine ⟨⟨hx, fun i p hi hp => h.so i p hi ?_⟩, ⟨hy, fun i p hi hp => h.so i p hi ?_⟩⟩
  · simp only [findCut, hp]
  · simp only [findCut]
    cases hq : findCut i x with
    | none => exact hp
    | some q => exact absurd (List.mem_filter.2 ⟨findCut_mem hp, hi⟩) (hxy i (List.mem_filter.2 ⟨findCut_mem hq, hi⟩))

theorem TOK.block {A : Ann} {id : Nat} {c : Code} (h : TOK A (.block id c)) : TOK A c := ⟨h.one, h.so⟩

theorem kn_next {A : Ann} {c : Cst} {R : Type} {i : Nat} {k : Exit → St → Option R} {r : R} {Q} (hmm : c.mm = A.mm) (hk : Next A c k r Q) : Next A c (kn A i k) r Q := by
  intro e st Im ρ a w h hnx hf hs
  obtain ⟨ρ', hs', hnx', hf'⟩ := norm_sound (keep := A.xk i e) hmm hs
  exact hk e _ Im ρ' a w h hnx' hf' hs'

theorem viaTab_cases {R : Type} {A : Ann} {i : Nat} {st : St} {k : Exit → St → Option R} {d : Option R} {r : R} (h : viaTab A i st k d = some r) :
    (tabAt A.tab i = none ∧ d = some r) ∨ (∃ keep l y, tabAt A.tab i = some keep ∧ A.L i (norm A.mm keep st) = some l ∧ l.o = some y ∧ l.g R y k = some r) := by
  unfold viaTab at h
  cases hk : tabAt A.tab i with
  | none => rw [hk] at h; exact .inl ⟨rfl, h⟩
  | some keep =>
    rw [hk] at h
    right
    simp only at h
    cases hl : A.L i (norm A.mm keep st) with
    | none => rw [hl] at h; cases h
    | some l =>
      obtain ⟨Y, o, f⟩ := l
      rw [hl] at h
      simp only at h
      cases o with
      | none => cases h
      | some y => exact ⟨keep, ⟨Y, some y, f⟩, y, rfl, hl, rfl, h⟩

theorem aexec_sound {A : Ann} (hD : DOK A.cx) (hm : A.cx.P.follows .mixedOrders = true) {c : Cst} (hmm : c.mm = A.mm) {R : Type} :
    ∀ (code : Code), TOK A code → ∀ (st : St) (k : Exit → St → Option R) (r : R) (Q : Exit → Act → World → Prop) Im ρ a w, aexec A code st k = some r → A.mm ≤ st.nx → (∀ q, st.nx ≤ q → ρ q = .unborn) →
      SR c Im ρ st.t st.m a w → Next A c k r Q → code.wp A.cx.P Q a w := by
  intro code
  induction code with
  | skip =>
    intro hT st k r Q Im ρ a w h hnx hf hs hk
    exact wp_skip (hk _ st Im ρ a w h hnx hf hs)
  | exit id =>
    intro hT st k r Q Im ρ a w h hnx hf hs hk
    exact wp_exit (hk _ st Im ρ a w h hnx hf hs)
  | ret =>
    intro hT st k r Q Im ρ a w h hnx hf hs hk
    exact wp_ret (hk _ st Im ρ a w h hnx hf hs)
  | region id ops draw =>
    intro hT st k r Q Im ρ a w h hnx hf hs hk
    simp only [aexec] at h
    cases draw with
    | false =>
      simp only at h
      refine wp_region ?_
      have := runOps_sound hD (c := c) (Q := Q) (by omega) (fun t' m' Im' ρ' a' w' hk' hs' hf' => hk _ ⟨t', m', st.nx + 64 * ops.size⟩ Im' ρ' a' w' hk' (by simp only; omega) hf' hs')
        ops.toList 0 st.t st.m Im ρ a w rfl (by simp) h hs (fun q hq => hf q (by omega))
      simpa [List.range_eq_range'] using this
    | true =>
      simp only at h
      cases hok : apartOK ops (Region.before ops) with
      | false => rw [hok] at h; cases h
      | true =>
        rw [hok] at h
        simp only [cond_true] at h
        exact draw_sound hD hm (c := c) (Q := Q) (by omega) hok (fun t' m' Im' ρ' a' w' hk' hs' hf' => hk _ ⟨t', m', st.nx + 64 * ops.size⟩ Im' ρ' a' w' hk' (by simp only; omega) hf' hs') h hs hf
  | seq x y ihx ihy =>
    intro hT st k r Q Im ρ a w h hnx hf hs hk
    obtain ⟨hTx, hTy, hC⟩ := hT.seq
    refine wp_seq (ihx hTx st _ r _ Im ρ a w h hnx hf hs ?_)
    intro e st' Im' ρ' a' w' h' hnx' hf' hs'
    cases e with
    | normal =>
      rcases viaTab_cases h' with ⟨_, h'⟩ | ⟨keep, l, z, ht, hl, hz, h'⟩
      · exact ihy hTy st' k r Q Im' ρ' a' w' h' hnx' hf' hs' hk
      · obtain ⟨ρ2, hs2, hnx2, hf2⟩ := norm_sound (keep := keep) hmm hs'
        have := hC (by simp [ht]) _ l z hl hz
        rw [if_pos (by omega)] at this
        exact ihy hTy _ _ r Q Im' ρ2 a' w' ((this R k).trans h') hnx2 hf2 hs2 (kn_next hmm hk)
    | _ => exact hk _ st' Im' ρ' a' w' h' hnx' hf' hs'
  | cond o x y ihx ihy =>
    intro hT st k r Q Im ρ a w h hnx hf hs hk
    simp only [aexec] at h
    split at h
    · rename_i b hb
      have hc : a.eval o = .bool b := by
        have := evO_ok hs.tm hb
        simpa [VR] using this
      cases b with
      | true => exact wp_cond hc (by simpa using ihx hT.cond.1 st k r Q Im ρ a w h hnx hf hs hk)
      | false => exact wp_cond hc (by simpa using ihy hT.cond.2 st k r Q Im ρ a w h hnx hf hs hk)
    · cases h
  | block id x ih =>
    intro hT st k r Q Im ρ a w h hnx hf hs hk
    refine wp_block (ih hT.block st _ r _ Im ρ a w h hnx hf hs ?_)
    intro e st' Im' ρ' a' w' h' hnx' hf' hs'
    cases e with
    | exit i =>
      simp only [Exit.inBlock] at h' ⊢
      by_cases e : i = id
      · rw [if_pos e] at h' ⊢
        exact hk _ st' Im' ρ' a' w' h' hnx' hf' hs'
      · rw [if_neg e] at h' ⊢
        exact hk _ st' Im' ρ' a' w' h' hnx' hf' hs'
    | _ => exact hk _ st' Im' ρ' a' w' h' hnx' hf' hs'
  | loop x ih =>
    intro hT st k r Q Im ρ a w h hnx hf hs hk
    obtain ⟨hTx, hC⟩ := hT.loop
    simp only [aexec] at h
    rcases viaTab_cases h with ⟨_, h⟩ | ⟨keep, l, z, ht, hl, hz, h⟩
    · exact wp_loop_rounds A.fuel (iter_sound (ih hTx) A.fuel st k r Q Im ρ a w h hnx hf hs hk)
    · obtain ⟨ρ2, hs2, hnx2, hf2⟩ := norm_sound (keep := keep) hmm hs
      have := hC (by simp [ht]) _ l z hl hz
      rw [if_neg (by omega)] at this
      obtain ⟨n, hn⟩ := this
      refine wp_loop_rounds n (iter_sound (F := fun s k => aexec A x s (kn A (2 * fid x) k)) ?_ n _ k r Q Im ρ2 a w ((hn R k).trans h) hnx2 hf2 hs2 hk)
      intro st k r Q Im ρ a w h hnx hf hs hk
      exact ih hTx st _ r Q Im ρ a w h hnx hf hs (kn_next hmm hk)
  | _ => intro hT st k r Q Im ρ a w h; simp [aexec] at h

/-! ### What comes out -/
theorem loadAt_as {P : Program} {w : World} {t : TypeId} {a v : Value} (h : (Instr.loadAt t a).run P w = .ok v w) : (do loadVar t (← asAddr a) : Sem Value).run P w = .ok v w := by
  cases a with
  | pointer p => cases p with
    | none => simp [Instr.loadAt, Instr.sureAddr] at h
    | some ad => exact h
  | _ => simp [Instr.loadAt, Instr.sureAddr] at h

theorem resV_run {P : Program} {w : World} {Im ρ} {t : List AV} {m : Rows} {tmps : Array Value} (hr : RS w Im ρ m) (ht : VRs w Im ρ t tmps.toList) : ∀ (l : List ResultVar) (vs : List AV), resV P m t l = some vs →
    ∃ us, VRs w Im ρ vs us ∧ (l.mapM (m := Sem) fun
      | .tmp t => pure (tmps.getD t undef)
      | .cell a t => do loadVar t (← asAddr (tmps.getD a undef))).run P w = .ok us w
  | [], vs, h => by
    simp only [resV, Option.some.injEq] at h
    subst h
    exact ⟨[], by simp [VRs], rfl⟩
  | .tmp i :: l, vs, h => by
    simp only [resV, Option.map_eq_some_iff] at h
    obtain ⟨vs', h, rfl⟩ := h
    obtain ⟨us, h1, h2⟩ := resV_run hr ht l vs' h
    refine ⟨tmps.getD i undef :: us, VRs_cons.2 ⟨_, _, rfl, ?_, h1⟩, ?_⟩
    · have := VRs_get ht i
      simpa [Array.getD_eq_getD_getElem?, List.getD_eq_getElem?_getD] using this
    · simp only [List.mapM_cons, Sem.run_bind, Sem.run_pure] at h2 ⊢
      simp only [Result.andThen, h2]
  | .cell i ty :: l, vs, h => by
    simp only [resV] at h
    split at h
    · rename_i d r hd hr'
      cases h
      obtain ⟨us, h1, h2⟩ := resV_run hr ht l r hr'
      have hx : VR w Im ρ (t.getD i .dead) (tmps.getD i undef) := by
        have := VRs_get ht i
        simpa [Array.getD_eq_getD_getElem?, List.getD_eq_getElem?_getD] using this
      obtain ⟨_, v, hv, hvr⟩ := opLoad_ok hd hr hx
      have hl := loadAt_as hv
      refine ⟨v :: us, VRs_cons.2 ⟨_, _, rfl, hvr, h1⟩, ?_⟩
      simp only [List.mapM_cons, Sem.run_bind, Sem.run_pure] at h2 hl ⊢
      simp only [Result.andThen, h2] at hl ⊢
      rw [hl]
      dsimp only
      rw [h2]
    · cases h
end Go.Proofs.YtklnpdnfjponpaaDoorV
