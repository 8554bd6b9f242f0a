/- The code of a function, and a call of it. -/
import Derived.Test.YtfogafinohfpfaaGreatDoorVq
import Derived.RangeFuncRecord
namespace Go.Proofs.YtfogafinohfpfaaGreatDoorV
open Go.RowKit
set_option linter.unusedVariables false
set_option linter.unusedSimpArgs false

/-- What is asked of what follows. -/
structure Next {R : Type} (A : Ann) (c : Cst) (k : Exit → St → Option R) (r : R) (Q : Exit → Act → World → Prop) : Prop where
  go : ∀ e st Im ρ a w, (∀ ch, e ≠ .panic ch) → k e st = some r → A.mm ≤ st.nx → (∀ q, st.nx ≤ q → ρ q = .unborn) → SR c Im ρ st.t st.m a w → Q e a w
  pan : ∀ v u t m nx Im ρ a w, k (.panic []) ⟨v :: t, m, nx⟩ = some r → A.mm ≤ nx → (∀ q, nx ≤ q → ρ q = .unborn) → SR c Im ρ (v :: t) m { a with tmps := #[u] ++ a.tmps } w → Q (.panic [{ v := u, recovered := false }]) a w

theorem iter_sound {A : Ann} {c : Cst} {R : Type} {P : Program} {rd : Option Nat} {code : Code} {F : St → (Exit → St → Option R) → Option R}
    (hc : ∀ (st : St) (k : Exit → St → Option R) (r : R) (Q : Exit → Act → World → Prop) Im ρ a w, F st k = some r → A.mm ≤ st.nx → (∀ q, st.nx ≤ q → ρ q = .unborn) → SR c Im ρ st.t st.m a w → Next A c k r Q → code.wpIn (FW rd) 0 P Q a w) :
    ∀ (n : Nat) (st : St) (k : Exit → St → Option R) (r : R) (Q : Exit → Act → World → Prop) Im ρ a w, iter n F st k = some r → A.mm ≤ st.nx → (∀ q, st.nx ≤ q → ρ q = .unborn) → SR c Im ρ st.t st.m a w → Next A c k r Q → Code.roundsIn (FW rd) 0 P code Q n a w
  | 0, st, k, r, Q, Im, ρ, a, w, h, _, _, _, _ => by cases h
  | n + 1, st, k, r, Q, Im, ρ, a, w, h, hnx, hf, hs, hk => by
    rw [roundsIn_succ]
    refine hc st _ r _ Im ρ a w h hnx hf hs ⟨?_, ?_⟩
    · intro e st' Im' ρ' a' w' he h' hnx' hf' hs'
      cases e with
      | normal => exact iter_sound hc n st' k r Q Im' ρ' a' w' h' hnx' hf' hs' hk
      | _ => exact hk.go _ st' Im' ρ' a' w' he h' hnx' hf' hs'
    · intro v u t m nx Im' ρ' a' w' h' hnx' hf' hs'
      exact hk.pan v u t m nx Im' ρ' a' w' h' hnx' hf' hs'

/-- The ranges of a code are those that LA tells. -/
def LOK (A : Ann) : Code → Prop
  | .seq a b => LOK A a ∧ LOK A b
  | .cond _ x y => LOK A x ∧ LOK A y
  | .block _ c => LOK A c
  | .loop c => LOK A c
  | .rangeFunc _ ps assign body => LA (rid A.fn (lkey assign body)) = some (ps, assign, body)
  | _ => True

/-- No range over a function in it. -/
def noRange : Code → Bool
  | .seq a b => noRange a && noRange b
  | .cond _ x y => noRange x && noRange y
  | .block _ c => noRange c
  | .loop c => noRange c
  | .rangeFunc _ _ _ _ => false
  | _ => true

theorem lok_none {A : Ann} : ∀ {c : Code}, noRange c = true → LOK A c := by
  intro c
  induction c with
  | seq a b iha ihb => intro h; simp only [noRange, Bool.and_eq_true] at h; exact ⟨iha h.1, ihb h.2⟩
  | cond o x y ihx ihy => intro h; simp only [noRange, Bool.and_eq_true] at h; exact ⟨ihx h.1, ihy h.2⟩
  | block id c ih => intro h; exact ih h
  | loop c ih => intro h; exact ih h
  | rangeFunc => intro h; cases h
  | _ => intro h; trivial

/-- What the table tells of a part is so. -/
def Clause (A : Ann) (i : Nat) (p : Code) : Prop := ∀ st r y, A.L i st = some r → r.o = some y →
  if i % 2 = 1 then ∀ (R : Type) (k : Exit → St → Option R), aexec A p st (kn A i k) = r.g R y k
  else ∃ n, ∀ (R : Type) (k : Exit → St → Option R), iter n (fun s k => aexec A p s (kn A i k)) st k = r.g R y k

/-- All that the table tells of a code is so. -/
structure TOK (A : Ann) (code : Code) : Prop where
  one : ((cuts code).filter fun i => (tabAt A.tab i).isSome).Nodup
  so : ∀ i p, (tabAt A.tab i).isSome = true → findCut i code = some p → Clause A i p

theorem TOK.nil {A : Ann} (h : A.tab = []) (code : Code) : TOK A code := by
  refine ⟨?_, fun i p hi => ?_⟩
  · rw [h, List.filter_eq_nil_iff.2 (by simp [tabAt])]; exact List.nodup_nil
  · rw [h] at hi; simp [tabAt] at hi

theorem findCut_mem {i : Nat} : ∀ {c p : Code}, findCut i c = some p → i ∈ cuts c := by
  intro c
  induction c with
  | seq a b iha ihb =>
    intro p h
    simp only [findCut] at h
    simp only [cuts, List.mem_cons, List.mem_append]
    split at h
    · rename_i e; exact .inl e.symm
    · split at h
      · rename_i q hq; exact .inr (.inl (iha hq))
      · exact .inr (.inr (ihb h))
  | loop c ih =>
    intro p h
    simp only [findCut] at h
    simp only [cuts, List.mem_cons]
    split at h
    · rename_i e; exact .inl e.symm
    · exact .inr (ih h)
  | cond o x y ihx ihy =>
    intro p h
    simp only [findCut] at h
    simp only [cuts, List.mem_append]
    split at h
    · rename_i q hq; exact .inl (ihx hq)
    · exact .inr (ihy h)
  | block id c ih => intro p h; exact ih h
  | _ => intro p h; cases h

theorem nodup_app {α : Type} {l l' : List α} (h : (l ++ l').Nodup) : l.Nodup ∧ l'.Nodup ∧ ∀ x ∈ l, x ∉ l' := by
  rw [List.nodup_append] at h
  exact ⟨h.1, h.2.1, fun x hx hx' => h.2.2 x hx x hx' rfl⟩

theorem TOK.seq {A : Ann} {a b : Code} (h : TOK A (.seq a b)) : TOK A a ∧ TOK A b ∧ ((tabAt A.tab (2 * fid b + 1)).isSome = true → Clause A (2 * fid b + 1) b) := by
  have hn := h.one
  simp only [cuts, List.filter_cons, List.filter_append] at hn
  have hn' : (List.filter (fun i => (tabAt A.tab i).isSome) (cuts a) ++ List.filter (fun i => (tabAt A.tab i).isSome) (cuts b)).Nodup := by
    split at hn
    · exact (List.nodup_cons.1 hn).2
    · exact hn
  obtain ⟨ha, hb, hab⟩ := nodup_app hn'
  have hne : ∀ i, (tabAt A.tab i).isSome = true → (i ∈ cuts a ∨ i ∈ cuts b) → ¬ 2 * fid b + 1 = i := by
    intro i hi hm e
    subst e
    rw [if_pos hi] at hn
    refine (List.nodup_cons.1 hn).1 ?_
    simp only [List.mem_append, List.mem_filter]
    exact hm.imp (fun h => ⟨h, hi⟩) (fun h => ⟨h, hi⟩)
  refine ⟨⟨ha, fun i p hi hp => h.so i p hi ?_⟩, ⟨hb, fun i p hi hp => h.so i p hi ?_⟩, fun hi => h.so _ b hi ?_⟩
  · simp only [findCut]
    rw [if_neg (hne i hi (.inl (findCut_mem hp))), hp]
  · simp only [findCut]
    rw [if_neg (hne i hi (.inr (findCut_mem hp)))]
    cases hq : findCut i a with
    | none => exact hp
    | some q => exact absurd (List.mem_filter.2 ⟨findCut_mem hp, hi⟩) (hab i (List.mem_filter.2 ⟨findCut_mem hq, hi⟩))
  · simp [findCut]

theorem TOK.loop {A : Ann} {c : Code} (h : TOK A (.loop c)) : TOK A c ∧ ((tabAt A.tab (lk c)).isSome = true → Clause A (lk c) c) := by
  have hn := h.one
  simp only [cuts, List.filter_cons] at hn
  have hn' : (List.filter (fun i => (tabAt A.tab i).isSome) (cuts c)).Nodup := by
    split at hn
    · exact (List.nodup_cons.1 hn).2
    · exact hn
  refine ⟨⟨hn', fun i p hi hp => h.so i p hi ?_⟩, fun hi => h.so _ c hi (by simp [findCut])⟩
  simp only [findCut]
  rw [if_neg, hp]
  intro e
  subst e
  rw [if_pos hi] at hn
  exact (List.nodup_cons.1 hn).1 (List.mem_filter.2 ⟨findCut_mem hp, hi⟩)

theorem TOK.cond {A : Ann} {o : Operand} {x y : Code} (h : TOK A (.cond o x y)) : TOK A x ∧ TOK A y := by
  have hn := h.one
  simp only [cuts, List.filter_append] at hn
  obtain ⟨hx, hy, hxy⟩ := nodup_app hn
  refine ⟨⟨hx, fun i p hi hp => h.so i p hi ?_⟩, ⟨hy, fun i p hi hp => h.so i p hi ?_⟩⟩
  · simp only [findCut, hp]
  · simp only [findCut]
    cases hq : findCut i x with
    | none => exact hp
    | some q => exact absurd (List.mem_filter.2 ⟨findCut_mem hp, hi⟩) (hxy i (List.mem_filter.2 ⟨findCut_mem hq, hi⟩))

theorem TOK.block {A : Ann} {id : Nat} {c : Code} (h : TOK A (.block id c)) : TOK A c := ⟨h.one, h.so⟩

theorem keepL_cons (ks : List Nat) (v : AV) (t : List AV) : ∃ v' t', keepL 0 ks (v :: t) = v' :: t' := by
  cases ks with
  | nil => exact ⟨_, _, rfl⟩
  | cons q ks =>
    simp only [keepL]
    split
    · exact ⟨_, _, rfl⟩
    · exact ⟨_, _, rfl⟩

theorem norm_cons (mm : Nat) (keep : List Nat) (v : AV) (t : List AV) (m : Rows) (nx : Nat) : ∃ v' t', (norm mm keep ⟨v :: t, m, nx⟩).t = v' :: t' := by
  obtain ⟨v', t', e⟩ := keepL_cons keep v t
  unfold norm
  simp only [e, AV.renL]
  exact ⟨_, _, rfl⟩

theorem kn_next {A : Ann} {c : Cst} {R : Type} {i : Nat} {k : Exit → St → Option R} {r : R} {Q} (hmm : c.mm = A.mm) (hk : Next A c k r Q) : Next A c (kn A i k) r Q := by
  refine ⟨?_, ?_⟩
  · intro e st Im ρ a w he h hnx hf hs
    obtain ⟨ρ', hs', hnx', hf'⟩ := norm_sound (keep := A.xk i e) hmm hs
    exact hk.go e _ Im ρ' a w he h hnx' hf' hs'
  · intro v u t m nx Im ρ a w h hnx hf hs
    obtain ⟨ρ', hs', hnx', hf'⟩ := norm_sound (st := ⟨v :: t, m, nx⟩) (keep := A.xk i (.panic [])) hmm hs
    obtain ⟨v', t', e⟩ := norm_cons A.mm (A.xk i (.panic [])) v t m nx
    rw [e] at hs'
    refine hk.pan v' u t' _ _ Im ρ' a w ?_ hnx' hf' hs'
    rw [← e]
    exact h

theorem viaTab_cases {R : Type} {A : Ann} {i : Nat} {st : St} {k : Exit → St → Option R} {d : Option R} {r : R} (h : viaTab A i st k d = some r) :
    (tabAt A.tab i = none ∧ d = some r) ∨ (∃ keep l y, tabAt A.tab i = some keep ∧ A.L i (norm A.mm keep st) = some l ∧ l.o = some y ∧ l.g R y k = some r) := by
  unfold viaTab at h
  cases hk : tabAt A.tab i with
  | none => rw [hk] at h; exact .inl ⟨rfl, h⟩
  | some keep =>
    rw [hk] at h
    right
    simp only at h
    cases hl : A.L i (norm A.mm keep st) with
    | none => rw [hl] at h; cases h
    | some l =>
      obtain ⟨Y, o, f⟩ := l
      rw [hl] at h
      simp only at h
      cases o with
      | none => cases h
      | some y => exact ⟨keep, ⟨Y, some y, f⟩, y, rfl, hl, rfl, h⟩

theorem rangeOut_cases {R : Type} {k : Exit → Option R} {r : R} {st : Nat} : ∀ {l : List Nat}, rangeOut k st l = some r → (st = 0 ∧ k .normal = some r) ∨ (st = 2 ∧ k .ret = some r) ∨ ∃ i, st = 3 + i ∧ k (.exit i) = some r
  | [], h => by cases h
  | i :: l, h => by
    simp only [rangeOut] at h
    cases h0 : Nat.beq st i with
    | true =>
      rw [h0] at h
      obtain rfl := Nat.eq_of_beq_eq_true h0
      match st, h with
      | 0, h => exact .inl ⟨rfl, h⟩
      | 1, h => cases h
      | 2, h => exact .inr (.inl ⟨rfl, h⟩)
      | n + 3, h => exact .inr (.inr ⟨n, Nat.add_comm _ _, h⟩)
    | false => rw [h0] at h; exact rangeOut_cases h

theorem kp_putObj (w : World) (g : Nat) (o : Obj) : Kp (fun b => b = g) w (w.putObj g o) :=
  ⟨rfl, rfl, rfl, by simp, fun b _ hn => World.putObj_heap_other hn⟩

/-- A range over a function. -/
theorem range_sound {A : Ann} (hD : DOK A.cx) {rd : Option Nat} (hin : rd.isSome = true → A.inr = true) {c : Cst} (hmm : c.mm = A.mm) (hnm : c.nm = true → A.inr = true) {R : Type} {g : Operand} {ps : Array Tmp} {assign body : Code} (hL : LOK A (.rangeFunc g ps assign body)) {st : St} {k : Exit → St → Option R} {r : R} {Q : Exit → Act → World → Prop} {Im ρ a w}
    (h : aexec A (.rangeFunc g ps assign body) st k = some r) (hnx : A.mm ≤ st.nx) (hf : ∀ q, st.nx ≤ q → ρ q = .unborn) (hs : SR c Im ρ st.t st.m a w) (hk : Next A c k r Q) : (Code.rangeFunc g ps assign body).wpIn (FW rd) 0 A.cx.P Q a w := by
  simp only [aexec] at h
  split at h
  · rename_i f cap hinr hg
    obtain rfl : rd = none := by
      cases rd with
      | none => rfl
      | some l => have := hin rfl; rw [hinr] at this; cases this
    cases hcond : fnB (rid A.fn (lkey assign body)) || (!fnB f || isSame A.cx.P f) with
    | true => rw [hcond] at h; cases h
    | false =>
    rw [hcond] at h
    simp only [cond_false] at h
    simp only [Bool.or_eq_false_iff, Bool.not_eq_false'] at hcond
    obtain ⟨hidb, hfb, hsame⟩ := hcond
    rcases run_get h with ⟨d, hd, h⟩ | ⟨d, hd, h⟩
    case inr => cases h
    split at h
    case h_2 => cases h
    rename_i e1 sz1 id1 s l1 hlk
    obtain ⟨caps, hga, hcap⟩ := evO_ok hs.tm hg
    rw [fval_fn (mB_of hfb)] at hga
    have hw1h : ∀ b, b < w.heap.size → ((w.alloc (.deferred (some []))).alloc (.loop { state := .ready, pending := none, fn := 0, tmps := a.tmps, params := ps, assign, body, defers := w.heap.size })).heap[b]? = w.heap[b]? := by
      intro b hb
      rw [heap_alloc_at _ _ b (by simp; omega), heap_alloc_at _ _ b hb]
    refine wpIn_rangeFunc (fun fn _ => ?_)
    let rec1 : Loop := { state := .ready, pending := none, fn, tmps := a.tmps, params := ps, assign, body, defers := w.heap.size }
    let w1 : World := (w.alloc (.deferred (some []))).alloc (.loop rec1)
    have hkp1 : Kp (fun _ => False) w w1 := (Kp.alloc _ w _).trans (Kp.alloc _ _ _) (fun _ h => h) (fun _ h => .inl h)
    have hnew : w1.heap[w.heap.size + 1]? = some (.loop rec1) := by
      have := World.alloc_heap_new (w.alloc (.deferred (some []))) (.loop rec1)
      have e : (w.alloc (.deferred (some []))).heap.size = w.heap.size + 1 := by simp
      rw [e] at this
      exact this
    have hmark : w1.heap[w.heap.size]? = some (.deferred (some [])) := by
      show ((w.alloc (.deferred (some []))).alloc (.loop rec1)).heap[w.heap.size]? = _
      rw [heap_alloc_at _ _ _ (by simp)]
      exact World.alloc_heap_new w _
    have hun := hf st.nx (Nat.le_refl _)
    have hE1 := Eff.newB (nb := st.nx) (n := 0) (cap := 0) (x := ⟨0, 1, .loop (rid A.fn (lkey assign body)) 0 (keepL 0 (A.rk (rid A.fn (lkey assign body))) st.t)⟩) hs.rs hun ⟨Nat.le_refl _, by omega⟩ Nat.one_pos trivial hkp1 (g0 := w.heap.size + 1) (by omega)
      (fun hkp ρ' hE _ => ⟨rfl, rec1, hnew, hL, ⟨rfl, rfl⟩, VRs_mono (fun b hb => hs.rs.im_same hkp b hb) (fun _ h => h) hE _ _ (VRs_keep _ _ _ _ hs.tm)⟩)
    have hs1 := hs.step hE1 (by omega) none (x := .dead) (v := undef) trivial
    let ρ1 := upd ρ st.nx (.blk (w.heap.size + 1) 0 0)
    have hown1 : ¬ ownB ρ1 w.heap.size := by
      rintro ⟨q, n, cc, e⟩
      by_cases hq : st.nx = q
      · subst hq; simp only [ρ1, upd_same, Loc.blk.injEq] at e; omega
      · simp only [ρ1, upd_other hq] at e
        have := hs.rs.lt e; omega
    have hs2 : SR c Im ρ1 st.t (putR st.m st.nx ⟨0, 1, .loop (rid A.fn (lkey assign body)) 0 (keepL 0 (A.rk (rid A.fn (lkey assign body))) st.t)⟩) { a with defers := [{ target := .collected w.heap.size, args := #[] }] ++ a.defers } w1 := by
      refine ⟨hs1.rs, hs1.sz, hs1.tm, ?_, hs1.kp, hs1.im0, hs1.imn, hs1.own, hs1.root⟩
      obtain ⟨rs, hR⟩ := hs.df
      obtain ⟨hds, h0, hnd, hr⟩ := hR.step hE1.kp hE1.imN hE1.own
      refine ⟨w.heap.size :: rs, ?_, fun h => ?_, ?_, ?_⟩
      · show [_] ++ a.defers = _
        rw [hds]; rfl
      · have := hnm h
        rw [hinr] at this; cases this
      · refine List.nodup_cons.2 ⟨fun hm => ?_, hnd⟩
        have := (hR.2.2.2 _ hm).2.1
        have := (Array.getElem?_eq_some_iff.1 this).1
        omega
      · intro r hr'
        rcases List.mem_cons.1 hr' with rfl | hr'
        · exact ⟨hs.kp.size, hmark, hown1, fun hi => by have := hs.rs.imlt _ hi; omega⟩
        · exact hr r hr'
    have hf1 : ∀ q, st.nx + 1 ≤ q → q < st.nx + 1 + 64 → ρ1 q = .unborn := fun q h1 _ => by
      simp only [ρ1]; rw [upd_other (by omega)]; exact hf q (by omega)
    have hyv : VR w1 Im ρ1 (.oref .yield st.nx) (.func (.yield (w.heap.size + 1)) #[] #[]) := by
      simp only [VR, ρ1, upd_same]; rfl
    have hcap1 := VRs_mono (fun b hb => hs.rs.im_same hE1.kp b hb) (fun _ h => h) hE1.ext _ _ hcap
    have hall : VRs w1 Im ρ1 (.oref .yield st.nx :: cap) (.func (.yield (w.heap.size + 1)) #[] #[] :: caps.toList) := VRs_cons.2 ⟨_, _, rfl, hyv, hcap1⟩
    obtain ⟨hent, hcall⟩ := opCall_ok hD (OR.gete_get hd) hs2.rs hall hf1
    refine ⟨w.heap.size + 1, [{ target := .collected w.heap.size, args := #[] }], w1, { target := .fn (.func f) caps, args := #[.func (.yield (w.heap.size + 1)) #[] #[]] }, w1, f, (.func (.yield (w.heap.size + 1)) #[] #[] :: caps.toList).toArray, w1, ?_, ?_, fun _ _ => trivial, ?_, (fun h => by cases h), ?_⟩
    · exact run_enterLoop_outer fn a.tmps ps assign body
    · have hga' : ({ tmps := a.tmps, defers := a.defers } : Act).eval g = _ := hga
      simp only [resolve, hga', Deferred.ofValue, Sem.run_pure]
      simp [Act.eval]
    · have e : #[Value.func (.yield (w.heap.size + 1)) #[] #[]] ++ caps = (.func (.yield (w.heap.size + 1)) #[] #[] :: caps.toList).toArray := by apply Array.ext'; simp
      simp only [invoke]
      rw [e]
      exact hent hfb _ _
    · refine callsIn_FW.2 ((hcall.fn hfb).mono ?_)
      rintro e w' ⟨v, Im', ρ', rfl, hE2, hv⟩
      have hs3 := hs2.step hE2 (by omega) none (x := .dead) (v := undef) trivial
      have hrow := hE2.rs.row _ _ hlk
      have hl2 : ρ' st.nx = .blk (w.heap.size + 1) 0 0 := by
        rcases hE2.ext st.nx with e | e | e
        · rw [e]; simp only [ρ1, upd_same]
        · obtain ⟨_, _, hb⟩ := hrow
          rw [e] at hb; exact hb.elim
        · simp only [ρ1, upd_same] at e; cases e
      obtain ⟨_, _, hb⟩ := hrow
      rw [hl2] at hb
      obtain ⟨_, rec2, hg2, _, hst, _⟩ := hb
      have hbusy : ∀ s, LoopSt s rec2 → s ≠ 1 → rec2.state ≠ .busy := by
        intro s h1 h2 h3
        match s, h1, h2 with
        | 0, h1, _ => rw [h1.1] at h3; cases h3
        | 2, h1, _ => rw [h1.1] at h3; cases h3
        | n + 3, h1, _ => rw [h1.1] at h3; cases h3
      have fin : s ≠ 1 → ∃ w4, (Instr.endLoop (w.heap.size + 1)).run A.cx.P w' = .ok rec2.pending w4 ∧ SR c Im' (upd ρ' st.nx .gone) st.t (delR (upR (putR st.m st.nx ⟨0, 1, .loop (rid A.fn (lkey assign body)) 0 (keepL 0 (A.rk (rid A.fn (lkey assign body))) st.t)⟩) d.up) st.nx) { a with defers := [{ target := .collected w.heap.size, args := #[] }] ++ a.defers } w4 ∧ ∀ q, st.nx + 128 ≤ q → upd ρ' st.nx .gone q = .unborn := by
        intro hs1'
        have hE3 := Eff.lose (nb := st.nx) hE2.rs hl2 (kp_putObj w' (w.heap.size + 1) (.loop { rec2 with state := .exhausted }))
        refine ⟨_, run_endLoop hg2 (hbusy s hst hs1'), hs3.step hE3 (by omega) none (x := .dead) (v := undef) trivial, fun q hq => ?_⟩
        rw [upd_other (by omega)]
        refine hE2.born q ?_ (by omega)
        simp only [ρ1]
        rw [upd_other (by omega)]; exact hf q (by omega)
      rcases rangeOut_cases h with ⟨rfl, hq⟩ | ⟨rfl, hq⟩ | ⟨i, rfl, hq⟩
      · obtain ⟨w4, h1, h2, h3⟩ := fin (by omega)
        refine ⟨rec2.pending, w4, h1, ?_⟩
        have : rec2.pending = none := hst.2
        rw [this]
        exact hk.go .normal _ Im' _ _ w4 (fun _ e => by cases e) hq (by simp only; omega) h3 h2
      · obtain ⟨w4, h1, h2, h3⟩ := fin (by omega)
        refine ⟨rec2.pending, w4, h1, ?_⟩
        have : rec2.pending = some .ret := hst.2
        rw [this]
        exact wpIn_ret (hk.go .ret _ Im' _ _ w4 (fun _ e => by cases e) hq (by simp only; omega) h3 h2)
      · obtain ⟨w4, h1, h2, h3⟩ := fin (by omega)
        refine ⟨rec2.pending, w4, h1, ?_⟩
        have : rec2.pending = some (.exit i) := by
          rw [Nat.add_comm] at hst
          exact hst.2
        rw [this]
        exact wpIn_exit (hk.go (.exit i) _ Im' _ _ w4 (fun _ e => by cases e) hq (by simp only; omega) h3 h2)
  · cases h

theorem aexec_sound {A : Ann} (hD : DOK A.cx) (hm : A.cx.P.follows .mixedOrders = true) {rd : Option Nat} (hin : rd.isSome = true → A.inr = true) {c : Cst} (hmm : c.mm = A.mm) (hnm : c.nm = true → A.inr = true) {R : Type} :
    ∀ (code : Code), TOK A code → LOK A code → ∀ (st : St) (k : Exit → St → Option R) (r : R) (Q : Exit → Act → World → Prop) Im ρ a w, aexec A code st k = some r → A.mm ≤ st.nx → (∀ q, st.nx ≤ q → ρ q = .unborn) →
      SR c Im ρ st.t st.m a w → Next A c k r Q → code.wpIn (FW rd) 0 A.cx.P Q a w := by
  intro code
  induction code with
  | skip =>
    intro hT hL st k r Q Im ρ a w h hnx hf hs hk
    exact wpIn_skip (hk.go _ st Im ρ a w (fun _ e => by cases e) h hnx hf hs)
  | exit id =>
    intro hT hL st k r Q Im ρ a w h hnx hf hs hk
    exact wpIn_exit (hk.go _ st Im ρ a w (fun _ e => by cases e) h hnx hf hs)
  | ret =>
    intro hT hL st k r Q Im ρ a w h hnx hf hs hk
    exact wpIn_ret (hk.go _ st Im ρ a w (fun _ e => by cases e) h hnx hf hs)
  | region id ops draw =>
    intro hT hL st k r Q Im ρ a w h hnx hf hs hk
    simp only [aexec] at h
    cases draw with
    | false =>
      simp only at h
      refine wpIn_region ?_
      have := runOps_sound hD (rd := rd) (c := c) (Q := Q) (by omega) (fun t' m' Im' ρ' a' w' hk' hs' hf' => hk.go _ ⟨t', m', st.nx + 64 * ops.size⟩ Im' ρ' a' w' (fun _ e => by cases e) hk' (by simp only; omega) hf' hs')
        (fun v u t' m' Im' ρ' a' w' hk' hs' hf' => hk.pan v u t' m' (st.nx + 64 * ops.size) Im' ρ' a' w' hk' (by omega) hf' hs')
        ops.toList 0 st.t st.m Im ρ a w rfl (by simp) h hs (fun q hq => hf q (by omega))
      simpa [List.range_eq_range'] using this
    | true =>
      simp only at h
      cases hok : apartOK ops (Region.before ops) with
      | false => rw [hok] at h; cases h
      | true =>
        rw [hok] at h
        simp only [cond_true] at h
        exact draw_sound hD hm (c := c) (Q := Q) (by omega) hok (fun t' m' Im' ρ' a' w' hk' hs' hf' => hk.go _ ⟨t', m', st.nx + 64 * ops.size⟩ Im' ρ' a' w' (fun _ e => by cases e) hk' (by simp only; omega) hf' hs')
          (fun v u t' m' Im' ρ' a' w' hk' hs' hf' => hk.pan v u t' m' (st.nx + 64 * ops.size) Im' ρ' a' w' hk' (by omega) hf' hs') h hs hf
  | seq x y ihx ihy =>
    intro hT hL st k r Q Im ρ a w h hnx hf hs hk
    obtain ⟨hTx, hTy, hC⟩ := hT.seq
    refine wpIn_seq (ihx hTx hL.1 st _ r _ Im ρ a w h hnx hf hs ⟨?_, ?_⟩)
    · intro e st' Im' ρ' a' w' he h' hnx' hf' hs'
      cases e with
      | normal =>
        rcases viaTab_cases h' with ⟨_, h'⟩ | ⟨keep, l, z, ht, hl, hz, h'⟩
        · exact ihy hTy hL.2 st' k r Q Im' ρ' a' w' h' hnx' hf' hs' hk
        · obtain ⟨ρ2, hs2, hnx2, hf2⟩ := norm_sound (keep := keep) hmm hs'
          have := hC (by simp [ht]) _ l z hl hz
          rw [if_pos (by omega)] at this
          exact ihy hTy hL.2 _ _ r Q Im' ρ2 a' w' ((this R k).trans h') hnx2 hf2 hs2 (kn_next hmm hk)
      | _ => exact hk.go _ st' Im' ρ' a' w' he h' hnx' hf' hs'
    · intro v u t m nx Im' ρ' a' w' h' hnx' hf' hs'
      exact hk.pan v u t m nx Im' ρ' a' w' h' hnx' hf' hs'
  | cond o x y ihx ihy =>
    intro hT hL st k r Q Im ρ a w h hnx hf hs hk
    simp only [aexec] at h
    split at h
    · rename_i b hb
      have hc : a.eval o = .bool b := by
        have := evO_ok hs.tm hb
        simpa [VR] using this
      cases b with
      | true => exact wpIn_cond hc (by simpa using ihx hT.cond.1 hL.1 st k r Q Im ρ a w h hnx hf hs hk)
      | false => exact wpIn_cond hc (by simpa using ihy hT.cond.2 hL.2 st k r Q Im ρ a w h hnx hf hs hk)
    · cases h
  | block id x ih =>
    intro hT hL st k r Q Im ρ a w h hnx hf hs hk
    refine wpIn_block (ih hT.block hL st _ r _ Im ρ a w h hnx hf hs ⟨?_, ?_⟩)
    · intro e st' Im' ρ' a' w' he h' hnx' hf' hs'
      cases e with
      | exit i =>
        simp only [Exit.inBlock] at h' ⊢
        by_cases e : i = id
        · rw [if_pos e] at h' ⊢
          exact hk.go _ st' Im' ρ' a' w' (fun _ e => by cases e) h' hnx' hf' hs'
        · rw [if_neg e] at h' ⊢
          exact hk.go _ st' Im' ρ' a' w' (fun _ e => by cases e) h' hnx' hf' hs'
      | _ => exact hk.go _ st' Im' ρ' a' w' he h' hnx' hf' hs'
    · intro v u t m nx Im' ρ' a' w' h' hnx' hf' hs'
      exact hk.pan v u t m nx Im' ρ' a' w' h' hnx' hf' hs'
  | loop x ih =>
    intro hT hL st k r Q Im ρ a w h hnx hf hs hk
    obtain ⟨hTx, hC⟩ := hT.loop
    simp only [aexec] at h
    rcases viaTab_cases h with ⟨_, h⟩ | ⟨keep, l, z, ht, hl, hz, h⟩
    · exact wpIn_loop_rounds A.fuel (iter_sound (ih hTx hL) A.fuel st k r Q Im ρ a w h hnx hf hs hk)
    · obtain ⟨ρ2, hs2, hnx2, hf2⟩ := norm_sound (keep := keep) hmm hs
      have := hC (by simp [ht]) _ l z hl hz
      rw [if_neg (by unfold lk; omega)] at this
      obtain ⟨n, hn⟩ := this
      refine wpIn_loop_rounds n (iter_sound (F := fun s k => aexec A x s (kn A (lk x) k)) ?_ n _ k r Q Im ρ2 a w ((hn R k).trans h) hnx2 hf2 hs2 hk)
      intro st k r Q Im ρ a w h hnx hf hs hk
      exact ih hTx hL st _ r Q Im ρ a w h hnx hf hs (kn_next hmm hk)
  | rangeFunc g ps assign body =>
    intro hT hL st k r Q Im ρ a w h hnx hf hs hk
    exact range_sound hD hin hmm hnm hL h hnx hf hs hk
  | _ => intro hT hL st k r Q Im ρ a w h; simp [aexec] at h

/-! ### What comes out -/
theorem loadAt_as {P : Program} {w : World} {t : TypeId} {a v : Value} (h : (Instr.loadAt t a).run P w = .ok v w) : (do loadVar t (← asAddr a) : Sem Value).run P w = .ok v w := by
  cases a with
  | pointer p => cases p with
    | none => simp [Instr.loadAt, Instr.sureAddr] at h
    | some ad => exact h
  | _ => simp [Instr.loadAt, Instr.sureAddr] at h

theorem resV_run {P : Program} {w : World} {Im ρ} {t : List AV} {m : Rows} {tmps : Array Value} (hr : RS w Im ρ m) (ht : VRs w Im ρ t tmps.toList) : ∀ (l : List ResultVar) (vs : List AV), resV P m t l = some vs →
    ∃ us, VRs w Im ρ vs us ∧ (l.mapM (m := Sem) fun
      | .tmp t => pure (tmps.getD t undef)
      | .cell a t => do loadVar t (← asAddr (tmps.getD a undef))).run P w = .ok us w
  | [], vs, h => by
    simp only [resV, Option.some.injEq] at h
    subst h
    exact ⟨[], by simp [VRs], rfl⟩
  | .tmp i :: l, vs, h => by
    simp only [resV, Option.map_eq_some_iff] at h
    obtain ⟨vs', h, rfl⟩ := h
    obtain ⟨us, h1, h2⟩ := resV_run hr ht l vs' h
    refine ⟨tmps.getD i undef :: us, VRs_cons.2 ⟨_, _, rfl, ?_, h1⟩, ?_⟩
    · have := VRs_get ht i
      simpa [Array.getD_eq_getD_getElem?, List.getD_eq_getElem?_getD] using this
    · simp only [List.mapM_cons, Sem.run_bind, Sem.run_pure] at h2 ⊢
      simp only [Result.andThen, h2]
  | .cell i ty :: l, vs, h => by
    simp only [resV] at h
    split at h
    · rename_i d r hd hr'
      cases h
      obtain ⟨us, h1, h2⟩ := resV_run hr ht l r hr'
      have hx : VR w Im ρ (t.getD i .dead) (tmps.getD i undef) := by
        have := VRs_get ht i
        simpa [Array.getD_eq_getD_getElem?, List.getD_eq_getElem?_getD] using this
      obtain ⟨_, v, hv, hvr⟩ := opLoad_ok hd hr hx
      have hl := loadAt_as hv
      refine ⟨v :: us, VRs_cons.2 ⟨_, _, rfl, hvr, h1⟩, ?_⟩
      simp only [List.mapM_cons, Sem.run_bind, Sem.run_pure] at h2 hl ⊢
      simp only [Result.andThen, h2] at hl ⊢
      rw [hl]
      dsimp only
      rw [h2]
    · cases h
end Go.Proofs.YtfogafinohfpfaaGreatDoorV
