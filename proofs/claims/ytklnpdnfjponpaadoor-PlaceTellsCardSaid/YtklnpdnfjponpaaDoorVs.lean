/- A call of a function: what comes out. -/
import Derived.Test.YtklnpdnfjponpaaDoorVr
namespace Go.Proofs.YtklnpdnfjponpaaDoorV
open Go.RowKit
set_option linter.unusedVariables false
set_option linter.unusedSimpArgs false

theorem results_run {P : Program} {w : World} {Im ρ} {fn : Func} {t : List AV} {m : Rows} {tmps : Array Value} (hr : RS w Im ρ m) (ht : VRs w Im ρ t tmps.toList) {vs : List AV} (h : resV P m t fn.results.toList = some vs) :
    ∃ u, VR w Im ρ (tupV vs) u ∧ (results fn tmps).run P w = .ok u w := by
  obtain ⟨us, h1, h2⟩ := resV_run (P := P) hr ht _ _ h
  have hrun : (results fn tmps).run P w = .ok (if h : us.toArray.size = 1 then us.toArray[0] else .tuple us.toArray) w := by
    unfold results
    rw [Array.mapM_eq_mapM_toList]
    simp only [Sem.run_bind, Sem.run_map, Sem.run_pure, Result.andThen]
    erw [h2]
  refine ⟨_, ?_, hrun⟩
  cases vs with
  | nil =>
    simp [VRs] at h1; subst h1
    exact ⟨#[], by simp, by simp [VRs]⟩
  | cons x l =>
    obtain ⟨v, r, rfl, hv1, h3⟩ := VRs_cons.1 h1
    cases l with
    | nil =>
      simp [VRs] at h3; subst h3
      simpa [tupV] using hv1
    | cons y l =>
      have := VRs_len h3
      have hne : ¬ (v :: r).toArray.size = 1 := by simp at this ⊢; intro e; simp [e] at this
      rw [dif_neg hne]
      exact ⟨_, rfl, VRs_cons.2 ⟨v, r, rfl, hv1, h3⟩⟩

theorem delAll_look : ∀ (m : Rows) (l : List Nat) (q : Nat), look (finish.delAll m l) q = if q ∈ l then none else look m q
  | m, [], q => by simp [finish.delAll]
  | m, r :: l, q => by
    simp only [finish.delAll, delAll_look, look_del, List.mem_cons]
    by_cases e : q ∈ l
    · simp [e]
    · by_cases e2 : r = q
      · simp [e2]
      · simp [e, e2, Ne.symm e2]

/-- Rows that are given away, to stay as they are. -/
theorem SR.freeze {c Im ρ t m a w} (h : SR c Im ρ t m a w) (l : List Nat) : ∃ Im' ρ', SR c Im' ρ' t (finish.delAll m l) a w ∧ (∀ b, Im b → Im' b) ∧ Ext ρ ρ' ∧ (∀ r ∈ l, ∀ g n q, ρ r = .blk g n q → Im' g) := by
  let Im' : Nat → Prop := fun b => Im b ∨ ∃ r ∈ l, ∃ n q, ρ r = .blk b n q
  let ρ' : Nat → Loc := fun q => if q ∈ l then (if ρ q = .unborn then .unborn else .gone) else ρ q
  have hI : ∀ b, Im b → Im' b := fun b hb => .inl hb
  have hE : Ext ρ ρ' := fun q => by
    simp only [ρ']
    by_cases e : q ∈ l
    · rw [if_pos e]
      split
      · rename_i hu; exact .inl hu.symm
      · exact .inr (.inl rfl)
    · rw [if_neg e]; exact .inl rfl
  have hb : ∀ q g n c, ρ' q = .blk g n c → q ∉ l ∧ ρ q = .blk g n c := by
    intro q g n c e
    simp only [ρ'] at e
    by_cases e1 : q ∈ l
    · rw [if_pos e1] at e; split at e <;> cases e
    · rw [if_neg e1] at e; exact ⟨e1, e⟩
  refine ⟨Im', ρ', ⟨⟨?_, ?_, ?_, ?_, ?_, h.rs.gd.more hI⟩, h.sz, VRs_mono (fun _ _ => rfl) hI hE _ _ h.tm, h.df, h.kp, fun b hb => hI b (h.im0 b hb), ?_, ?_, ?_⟩, hI, hE, fun r hr g n q e => .inr ⟨r, hr, n, q, e⟩⟩
  · intro r x hx
    rw [delAll_look] at hx
    split at hx
    · cases hx
    · rename_i hn
      obtain ⟨h1, h2, h3⟩ := h.rs.row r x hx
      refine ⟨h1, h2, ?_⟩
      have : ρ' r = ρ r := by simp only [ρ']; rw [if_neg hn]
      rw [this]
      cases e : ρ r with
      | unborn => rw [e] at h3; exact h3
      | gone => rw [e] at h3; exact h3
      | virt => rw [e] at h3; exact h3
      | blk g n cap =>
        rw [e] at h3
        obtain ⟨cur, fr, hg, a1, a2, a3, a4, a5, a6⟩ := h3
        exact ⟨cur, fr, hg, a1, a2, a3, a4, a5, VRs_mono (fun _ _ => rfl) hI hE _ _ a6⟩
  · intro r hr
    rw [delAll_look] at hr
    simp only [ρ']
    split at hr
    · rename_i hm
      rw [if_pos hm]
      split
      · exact .inr rfl
      · exact .inl rfl
    · rename_i hm
      rw [if_neg hm]; exact h.rs.gone r hr
  · intro a b g n q n' q' e1 e2
    exact h.rs.inj _ _ _ _ _ _ _ (hb _ _ _ _ e1).2 (hb _ _ _ _ e2).2
  · intro r g n q e1
    obtain ⟨h1, h2⟩ := hb _ _ _ _ e1
    rintro (e | ⟨r', hr', n', q', e⟩)
    · exact h.rs.noim _ _ _ _ h2 e
    · have := h.rs.inj _ _ _ _ _ _ _ h2 e
      subst this
      exact h1 hr'
  · rintro b (e | ⟨r, _, n, q, e⟩)
    · exact h.rs.imlt b e
    · exact h.rs.lt e
  · rintro b (e | ⟨r, _, n, q, e⟩)
    · exact h.imn b e
    · exact .inr (h.own b ⟨r, n, q, e⟩)
  · rintro b ⟨r, n, q, e⟩
    exact h.own b ⟨r, n, q, (hb _ _ _ _ e).2⟩
  · intro q hq
    rcases hE q with e | e | e
    · rw [e]; exact h.root q hq
    · exact .inr e
    · have : ρ' q = ρ q := by
        simp only [ρ']
        split
        · simp [e]
        · rfl
      rw [this]; exact h.root q hq

/-- What is known at the end. -/
def Ends (c : Cst) (res : AV) (m' : Rows) (v : Value) (w' : World) : Prop :=
  ∃ Im' ρ', RS w' Im' ρ' m' ∧ VR w' Im' ρ' res v ∧ Kp (ownB c.ρ0) c.w0 w' ∧ (∀ b, c.Im0 b → Im' b) ∧
    (∀ b, Im' b → c.Im0 b ∨ c.w0.heap.size ≤ b ∨ ownB c.ρ0 b) ∧ (∀ b, ownB ρ' b → c.w0.heap.size ≤ b ∨ ownB c.ρ0 b) ∧ (∀ q, q < c.mm → ρ' q = c.ρ0 q ∨ ρ' q = .gone)

theorem SR.ends {c Im ρ t m a w} (h : SR c Im ρ t m a w) {v : AV} {u : Value} (hv : VR w Im ρ v u) {mm n : Nat} (hmm : c.mm = mm) :
    Ends c (v.ren (renN mm ((reachD m n (List.range mm ++ v.refs) []).filter fun r => !decide (r < mm))))
      (rowsAt m (renN mm ((reachD m n (List.range mm ++ v.refs) []).filter fun r => !decide (r < mm))) 0 (List.range mm) ++
        rowsAt m (renN mm ((reachD m n (List.range mm ++ v.refs) []).filter fun r => !decide (r < mm))) mm ((reachD m n (List.range mm ++ v.refs) []).filter fun r => !decide (r < mm))) u w := by
  obtain ⟨h1, h2, h3⟩ := reach_filter (m := m) (mm := mm) (n := n) (q := List.range mm ++ v.refs)
  generalize (reachD m n (List.range mm ++ v.refs) []).filter (fun r => !decide (r < mm)) = l at *
  exact ⟨Im, ρN ρ mm l, h.rs.anew h1 h2 h3, VR_ren ρN_ren _ _ hv, h.kp, h.im0, h.imn, fun b hb => h.own b (ρN_own hb), fun q hq => by rw [ρN_lt (by omega)]; exact h.root q hq⟩

theorem finish_sound {P : Program} {c : Cst} {mm : Nat} {fz : Bool} {fn : Func} {st : St} {res : AV} {m' : Rows} (hmm : c.mm = mm) (h : finish P mm fz fn st = some (res, m')) {Im ρ a w} (hs : SR c Im ρ st.t st.m a w) :
    ∃ v, (results fn a.tmps).run P w = .ok v w ∧ Ends c res m' v w := by
  unfold finish at h
  split at h
  · rename_i vs hvs
    obtain ⟨u, hu, hrun⟩ := results_run hs.rs hs.tm hvs
    refine ⟨u, hrun, ?_⟩
    cases fz with
    | false =>
      simp only [Bool.false_eq_true, if_false, Option.some.injEq, Prod.mk.injEq] at h
      obtain ⟨rfl, rfl⟩ := h
      exact hs.ends hu hmm
    | true =>
      simp only [if_true] at h
      cases hl : AV.lent P st.m 5 (tupV vs) with
      | none => rw [hl] at h; simp at h
      | some p =>
        obtain ⟨v, rd⟩ := p
        rw [hl] at h
        simp only [Option.map_some, Option.some.injEq, Prod.mk.injEq] at h
        obtain ⟨rfl, rfl⟩ := h
        obtain ⟨Im', ρ', hs', hI, hE, hrd⟩ := hs.freeze rd
        exact hs'.ends (VR_mono (fun _ _ => rfl) (fun _ h => h) hE _ _ (lent_ok hs.rs hI 5 _ _ _ _ hl hu hrd)) hmm
  · cases h

theorem acall_ok {A : Ann} (hD : DOK A.cx) (hm : A.cx.P.follows .mixedOrders = true) {f : FuncId} {fn : Func} (hf : A.cx.P.funcs[f]? = some fn) {fz : Bool} {as : List AV} {m : Rows} {res : AV} {m' : Rows}
    (hT : ∀ c, fn.body = some c → TOK A c) (hmm : A.mm = m.length) (h : acall A fz fn as m = some (res, m')) : CallOK A.cx.P f as m res m' := by
  intro w Im ρ vals hrs hv hnew
  unfold acall at h
  split at h
  · rename_i code hb
    refine calls_of_wp hf hb ?_
    have hlen := VRs_len hv
    let c : Cst := ⟨w, Im, ρ, A.mm⟩
    have hs : SR c Im ρ (as ++ List.replicate (fn.ntmps - as.length) .dead) m { tmps := vals.toArray ++ Array.replicate (fn.ntmps - vals.toArray.size) undef, defers := [] } w := by
      refine ⟨hrs, by simp [hlen], ?_, rfl, Kp.refl _ _, fun _ h => h, fun _ h => .inl h, fun _ h => .inr h, fun _ _ => .inl rfl⟩
      simp only [Array.toList_append, List.size_toArray, hlen, Array.toList_replicate]
      refine VRs_append hv ?_
      generalize fn.ntmps - as.length = n
      clear hb h hmm hf
      induction n with
      | zero => simp [VRs]
      | succ n ih => exact VRs_cons.2 ⟨undef, _, rfl, trivial, ih⟩
    refine aexec_sound hD hm (c := c) rfl code (hT code hb) _ _ (res, m') _ Im ρ _ w h (by simp only [hmm]; exact Nat.le_refl _) (fun q hq => hnew q (by simp only [hmm] at hq; exact hq)) hs ?_
    intro e st Im' ρ' a' w' hk hnx hf' hs'
    have fin : finish A.cx.P A.mm fz fn st = some (res, m') → a'.defers = [] ∧ ∃ v, (results fn a'.tmps).run A.cx.P w' = .ok v w' ∧ ∃ v2 Im' ρ', Ending.returned v = .returned v2 ∧ RS w' Im' ρ' m' ∧ VR w' Im' ρ' res v2 ∧ Kp (ownB ρ) w w' ∧ (∀ b, Im b → Im' b) ∧
      (∀ b, Im' b → Im b ∨ w.heap.size ≤ b ∨ ownB ρ b) ∧ (∀ b, ownB ρ' b → w.heap.size ≤ b ∨ ownB ρ b) ∧ (∀ q, q < m.length → ρ' q = ρ q ∨ ρ' q = .gone) := by
      intro hfin
      obtain ⟨v, hrun, Im2, ρ2, h1, h2, h3, h4, h5, h6, h7⟩ := finish_sound (c := c) rfl hfin hs'
      exact ⟨hs'.df, v, hrun, v, Im2, ρ2, rfl, h1, h2, h3, h4, h5, h6, fun q hq => h7 q (by simp only [c, hmm]; exact hq)⟩
    cases e with
    | normal => exact fin hk
    | ret => exact fin hk
    | _ => cases hk
  · cases h
end Go.Proofs.YtklnpdnfjponpaaDoorV
