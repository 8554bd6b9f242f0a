/- A call of a function: what comes out. -/
import Derived.Test.YtfogafinohfpfaaGreatDoorVr
import Derived.RangeFuncLeaves
namespace Go.Proofs.YtfogafinohfpfaaGreatDoorV
open Go.RowKit
set_option linter.unusedVariables false
set_option linter.unusedSimpArgs false

theorem results_run {P : Program} {w : World} {Im ρ} {fn : Func} {t : List AV} {m : Rows} {tmps : Array Value} (hr : RS w Im ρ m) (ht : VRs w Im ρ t tmps.toList) {vs : List AV} (h : resV P m t fn.results.toList = some vs) :
    ∃ u, VR w Im ρ (tupV vs) u ∧ (results fn tmps).run P w = .ok u w := by
  obtain ⟨us, h1, h2⟩ := resV_run (P := P) hr ht _ _ h
  have hrun : (results fn tmps).run P w = .ok (if h : us.toArray.size = 1 then us.toArray[0] else .tuple us.toArray) w := by
    unfold results
    rw [Array.mapM_eq_mapM_toList]
    simp only [Sem.run_bind, Sem.run_map, Sem.run_pure, Result.andThen]
    erw [h2]
  refine ⟨_, ?_, hrun⟩
  cases vs with
  | nil =>
    simp [VRs] at h1; subst h1
    exact ⟨#[], by simp, by simp [VRs]⟩
  | cons x l =>
    obtain ⟨v, r, rfl, hv1, h3⟩ := VRs_cons.1 h1
    cases l with
    | nil =>
      simp [VRs] at h3; subst h3
      simpa [tupV] using hv1
    | cons y l =>
      have := VRs_len h3
      have hne : ¬ (v :: r).toArray.size = 1 := by simp at this ⊢; intro e; simp [e] at this
      rw [dif_neg hne]
      exact ⟨_, rfl, VRs_cons.2 ⟨v, r, rfl, hv1, h3⟩⟩

theorem delAll_look : ∀ (m : Rows) (l : List Nat) (q : Nat), look (finish.delAll m l) q = if q ∈ l then none else look m q
  | m, [], q => by simp [finish.delAll]
  | m, r :: l, q => by
    simp only [finish.delAll, delAll_look, look_del, List.mem_cons]
    by_cases e : q ∈ l
    · simp [e]
    · by_cases e2 : r = q
      · simp [e2]
      · simp [e, e2, Ne.symm e2]

/-- Rows that are given away, to stay as they are. -/
theorem SR.freeze {c Im ρ t m a w} (h : SR c Im ρ t m a w) (l : List Nat) : ∃ Im' ρ', SR c Im' ρ' t (finish.delAll m l) a w ∧ (∀ b, Im b → Im' b) ∧ Ext ρ ρ' ∧ (∀ r ∈ l, ∀ g n q, ρ r = .blk g n q → Im' g) := by
  let Im' : Nat → Prop := fun b => Im b ∨ ∃ r ∈ l, ∃ n q, ρ r = .blk b n q
  let ρ' : Nat → Loc := fun q => if q ∈ l then (if ρ q = .unborn then .unborn else .gone) else ρ q
  have hI : ∀ b, Im b → Im' b := fun b hb => .inl hb
  have hE : Ext ρ ρ' := fun q => by
    simp only [ρ']
    by_cases e : q ∈ l
    · rw [if_pos e]
      split
      · rename_i hu; exact .inl hu.symm
      · exact .inr (.inl rfl)
    · rw [if_neg e]; exact .inl rfl
  have hb : ∀ q g n c, ρ' q = .blk g n c → q ∉ l ∧ ρ q = .blk g n c := by
    intro q g n c e
    simp only [ρ'] at e
    by_cases e1 : q ∈ l
    · rw [if_pos e1] at e; split at e <;> cases e
    · rw [if_neg e1] at e; exact ⟨e1, e⟩
  refine ⟨Im', ρ', ⟨⟨?_, ?_, ?_, ?_, ?_, h.rs.gd.more hI⟩, h.sz, VRs_mono (fun _ _ => rfl) hI hE _ _ h.tm, h.df.step (Kp.refl _ _) (fun b e => e.elim .inl (fun ⟨r, _, n, q, e⟩ => .inr (.inr ⟨r, n, q, e⟩))) (fun b ⟨r, n, q, e⟩ => .inr ⟨r, n, q, (hb r b n q e).2⟩), h.kp, fun b hb => hI b (h.im0 b hb), ?_, ?_, ?_⟩, hI, hE, fun r hr g n q e => .inr ⟨r, hr, n, q, e⟩⟩
  · intro r x hx
    rw [delAll_look] at hx
    split at hx
    · cases hx
    · rename_i hn
      obtain ⟨h1, h2, h3⟩ := h.rs.row r x hx
      refine ⟨h1, h2, ?_⟩
      have : ρ' r = ρ r := by simp only [ρ']; rw [if_neg hn]
      rw [this]
      cases e : ρ r with
      | unborn => rw [e] at h3; exact h3
      | gone => rw [e] at h3; exact h3
      | virt => rw [e] at h3; exact h3
      | blk g n cap =>
        rw [e] at h3
        exact h3.mono (fun _ _ => rfl) hI hE rfl
  · intro r hr
    rw [delAll_look] at hr
    simp only [ρ']
    split at hr
    · rename_i hm
      rw [if_pos hm]
      split
      · exact .inr rfl
      · exact .inl rfl
    · rename_i hm
      rw [if_neg hm]; exact h.rs.gone r hr
  · intro a b g n q n' q' e1 e2
    exact h.rs.inj _ _ _ _ _ _ _ (hb _ _ _ _ e1).2 (hb _ _ _ _ e2).2
  · intro r g n q e1
    obtain ⟨h1, h2⟩ := hb _ _ _ _ e1
    rintro (e | ⟨r', hr', n', q', e⟩)
    · exact h.rs.noim _ _ _ _ h2 e
    · have := h.rs.inj _ _ _ _ _ _ _ h2 e
      subst this
      exact h1 hr'
  · rintro b (e | ⟨r, _, n, q, e⟩)
    · exact h.rs.imlt b e
    · exact h.rs.lt e
  · rintro b (e | ⟨r, _, n, q, e⟩)
    · exact h.imn b e
    · exact .inr (h.own b ⟨r, n, q, e⟩)
  · rintro b ⟨r, n, q, e⟩
    exact h.own b ⟨r, n, q, (hb _ _ _ _ e).2⟩
  · intro q hq
    rcases hE q with e | e | e
    · rw [e]; exact h.root q hq
    · exact .inr e
    · have : ρ' q = ρ q := by
        simp only [ρ']
        split
        · simp [e]
        · rfl
      rw [this]; exact h.root q hq

/-- What is known at the end. -/
def Ends (c : Cst) (res : AV) (m' : Rows) (v : Value) (w' : World) : Prop :=
  ∃ Im' ρ', RS w' Im' ρ' m' ∧ VR w' Im' ρ' res v ∧ Kp (ownB c.ρ0) c.w0 w' ∧ (∀ b, c.Im0 b → Im' b) ∧
    (∀ b, Im' b → c.Im0 b ∨ c.w0.heap.size ≤ b ∨ ownB c.ρ0 b) ∧ (∀ b, ownB ρ' b → c.w0.heap.size ≤ b ∨ ownB c.ρ0 b) ∧ (∀ q, q < c.mm → ρ' q = c.ρ0 q ∨ ρ' q = .gone)

theorem SR.ends {c Im ρ t m a w} (h : SR c Im ρ t m a w) {v : AV} {u : Value} (hv : VR w Im ρ v u) {mm n : Nat} (hmm : c.mm = mm) :
    Ends c (v.ren (renN mm ((reachD m n (List.range mm ++ v.refs) []).filter fun r => !decide (r < mm))))
      (rowsAt m (renN mm ((reachD m n (List.range mm ++ v.refs) []).filter fun r => !decide (r < mm))) 0 (List.range mm) ++
        rowsAt m (renN mm ((reachD m n (List.range mm ++ v.refs) []).filter fun r => !decide (r < mm))) mm ((reachD m n (List.range mm ++ v.refs) []).filter fun r => !decide (r < mm))) u w := by
  obtain ⟨h1, h2, h3⟩ := reach_filter (m := m) (mm := mm) (n := n) (q := List.range mm ++ v.refs)
  generalize (reachD m n (List.range mm ++ v.refs) []).filter (fun r => !decide (r < mm)) = l at *
  exact ⟨Im, ρN ρ mm l, h.rs.anew h1 h2 h3, VR_ren ρN_ren _ _ hv, h.kp, h.im0, h.imn, fun b hb => h.own b (ρN_own hb), fun q hq => by rw [ρN_lt (by omega)]; exact h.root q hq⟩

theorem finish_sound {P : Program} {c : Cst} {mm : Nat} {fz : Bool} {fn : Func} {st : St} {res : AV} {m' : Rows} (hmm : c.mm = mm) (h : finish P mm fz fn st = some (res, m')) {Im ρ a w} (hs : SR c Im ρ st.t st.m a w) :
    ∃ v, (results fn a.tmps).run P w = .ok v w ∧ Ends c res m' v w := by
  unfold finish at h
  split at h
  · rename_i vs hvs
    obtain ⟨u, hu, hrun⟩ := results_run hs.rs hs.tm hvs
    refine ⟨u, hrun, ?_⟩
    cases fz with
    | false =>
      simp only [Bool.false_eq_true, if_false, Option.some.injEq, Prod.mk.injEq] at h
      obtain ⟨rfl, rfl⟩ := h
      exact hs.ends hu hmm
    | true =>
      simp only [if_true] at h
      cases hl : AV.lent P st.m 5 (tupV vs) with
      | none => rw [hl] at h; simp at h
      | some p =>
        obtain ⟨v, rd⟩ := p
        rw [hl] at h
        simp only [Option.map_some, Option.some.injEq, Prod.mk.injEq] at h
        obtain ⟨rfl, rfl⟩ := h
        obtain ⟨Im', ρ', hs', hI, hE, hrd⟩ := hs.freeze rd
        exact hs'.ends (VR_mono (fun _ _ => rfl) (fun _ h => h) hE _ _ (lent_ok hs.rs hI 5 _ _ _ _ hl hu hrd)) hmm
  · cases h

/-- A mark is taken: its block is shut. -/
theorem SR.shut {P : Program} {c Im ρ t m a w} (h : SR c Im ρ t m a w) {r : Nat} {rs : List Nat} (hR : MarksR c Im ρ (r :: rs) a.defers w) {ds : List Deferred} (hd : ds = rs.map (fun r => { target := .collected r, args := #[] }) ++ c.ds0) :
    ∃ w', (Instr.takeDeferred r).run P w = .ok [] w' ∧ SR c Im ρ t m { a with defers := ds } w' ∧ MarksR c Im ρ rs ds w' := by
  obtain ⟨h1, h0, h2, h3⟩ := hR
  obtain ⟨a1, a2, a3, a4⟩ := h3 r (by simp)
  have hk := kp_putObj w r (.deferred none)
  have hne : ∀ b, b ≠ r → (w.putObj r (.deferred none)).heap[b]? = w.heap[b]? := fun b hb => World.putObj_heap_other hb
  have hMR : MarksR c Im ρ rs ds (w.putObj r (.deferred none)) := by
    refine ⟨hd, fun hh => absurd (h0 hh) (by simp), (List.nodup_cons.1 h2).2, fun r' hr' => ?_⟩
    obtain ⟨b1, b2, b3, b4⟩ := h3 r' (by simp [hr'])
    have hrr : r' ≠ r := fun e => (List.nodup_cons.1 h2).1 (e ▸ hr')
    exact ⟨b1, (hne r' hrr).trans b2, b3, b4⟩
  refine ⟨_, run_takeDeferred a2, ?_, hMR⟩
  refine ⟨⟨?_, h.rs.gone, h.rs.inj, h.rs.noim, fun b hb => by simpa using h.rs.imlt b hb, ⟨h.rs.gd.im, GW_of (fun b hb => hne b (fun e => a4 (e ▸ h.rs.gd.im b hb))) h.rs.gd.gw⟩⟩, h.sz, ?_, ⟨rs, hMR⟩, ?_, h.im0, h.imn, h.own, h.root⟩
  · intro q x hx
    obtain ⟨p1, p2, p3⟩ := h.rs.row q x hx
    refine ⟨p1, p2, ?_⟩
    cases e : ρ q with
    | unborn => rw [e] at p3; exact p3
    | gone => rw [e] at p3; exact p3
    | virt => rw [e] at p3; exact p3
    | blk g n cap =>
      rw [e] at p3
      exact p3.mono (fun b hb => hne b (fun e' => a4 (e' ▸ hb))) (fun _ h => h) (Ext.refl _) (hne g (fun e' => a3 ⟨q, n, cap, by rw [← e']; exact e⟩))
  · exact VRs_mono (fun b hb => hne b (fun e' => a4 (e' ▸ hb))) (fun _ h => h) (Ext.refl _) _ _ h.tm
  · refine h.kp.trans hk (fun _ h => h) (fun b hb => .inr ?_)
    subst hb
    exact a1

theorem leaves_of {P : Program} {c Im ρ t m} {fn : Func} {tmps : Array Value} {R : Ending → World → Prop} {u : FrameMode} (hu : u ≠ .run) : ∀ (rs : List Nat) (a : Act) (w : World), SR c Im ρ t m a w → MarksR c Im ρ rs a.defers w →
    (∀ w', SR c Im ρ t m { a with defers := c.ds0 } w' → LeavesInM (FW none) 0 P fn tmps R c.ds0 u w') → LeavesInM (FW none) 0 P fn tmps R a.defers u w
  | [], a, w, hs, hR, h => by
    have hd : a.defers = c.ds0 := by rw [hR.1]; rfl
    have := h w (by have e : ({ a with defers := c.ds0 } : Act) = a := by rw [← hd]
                    rw [e]; exact hs)
    rw [hd]
    exact this
  | r :: rs, a, w, hs, hR, h => by
    obtain ⟨w', h2, h3, h4⟩ := hs.shut (P := P) hR rfl
    have hd : a.defers = { target := .collected r, args := #[] } :: (rs.map (fun r => { target := .collected r, args := #[] }) ++ c.ds0) := hR.1
    rw [hd]
    exact ⟨hu, .inl ⟨r, w', rfl, h2, leaves_of hu rs { a with defers := rs.map (fun r => { target := .collected r, args := #[] }) ++ c.ds0 } w' h3 h4 h⟩⟩

theorem finishP_sound {c : Cst} {mm : Nat} {st : St} {res : AV} {m' : Rows} (hmm : c.mm = mm) (h : finishP mm st = some (res, m')) {Im ρ a w} (hs : SR c Im ρ st.t st.m a w) {u : Value} {tl : List Value} (hu : a.tmps.toList = u :: tl) : Ends c res m' u w := by
  unfold finishP at h
  split at h
  · rename_i v l0 hv
    simp only [Option.some.injEq, Prod.mk.injEq] at h
    obtain ⟨rfl, rfl⟩ := h
    have ht := hs.tm
    rw [hv, hu] at ht
    obtain ⟨u', r', hu', hvr, _⟩ := VRs_cons.1 ht
    simp only [List.cons.injEq] at hu'
    obtain ⟨rfl, _⟩ := hu'
    exact hs.ends hvr hmm
  · cases h

theorem tagR_eq {p pn : Bool} {x : Option (AV × Rows)} {v : AV} {m : Rows} (h : tagR p x = some (pn, v, m)) : p = pn ∧ x = some (v, m) := by
  cases x with
  | none => cases h
  | some y =>
    obtain ⟨a, b⟩ := y
    simp only [tagR, Option.some.injEq, Prod.mk.injEq] at h
    exact ⟨h.1, by rw [h.2.1, h.2.2]⟩

theorem acall_ok {A : Ann} (hD : DOK A.cx) (hm : A.cx.P.follows .mixedOrders = true) {f : FuncId} (hfb : fnB f = true) {fn : Func} (hf : A.cx.P.funcs[f]? = some fn) {fz : Bool} {avs : List AV} {m : Rows} {pn : Bool} {res : AV} {m' : Rows}
    (hT : ∀ c, fn.body = some c → TOK A c ∧ LOK A c) (h : acall A fz fn avs m = some (pn, res, m')) : CallOK A.cx.P f A.mm avs m pn res m' := by
  intro w Im ρ vals hrs hv hnew
  unfold acall at h
  cases hle : Nat.ble A.mm m.length with
  | false => rw [hle] at h; cases h
  | true =>
  rw [hle] at h
  simp only [Bool.not_true, cond_false] at h
  have hmm : A.mm ≤ m.length := Nat.le_of_ble_eq_true hle
  split at h
  · rename_i code hb
    unfold Goes
    rw [hfb]
    refine callsIn_FW.1 (callsIn_of_wp_marks (F := FW none) (n := 0) hf hb trivial ?_)
    have hlen := VRs_len hv
    let c : Cst := ⟨w, Im, ρ, A.mm, false, []⟩
    have hs : SR c Im ρ (avs ++ List.replicate (fn.ntmps - avs.length) .dead) m { tmps := vals.toArray ++ Array.replicate (fn.ntmps - vals.toArray.size) undef, defers := [] } w := by
      refine ⟨hrs, by simp [hlen], ?_, Marks.nil, Kp.refl _ _, fun _ h => h, fun _ h => .inl h, fun _ h => .inr h, fun _ _ => .inl rfl⟩
      simp only [Array.toList_append, List.size_toArray, hlen, Array.toList_replicate]
      refine VRs_append hv ?_
      generalize fn.ntmps - avs.length = n
      clear hb h hf
      induction n with
      | zero => simp [VRs]
      | succ n ih => exact VRs_cons.2 ⟨undef, _, rfl, trivial, ih⟩
    have ends : ∀ v w' res m', Ends c res m' v w' → ∃ v2 Im' ρ', endOf pn v = endOf pn v2 ∧ RS w' Im' ρ' m' ∧ VR w' Im' ρ' res v2 ∧ Kp (ownB ρ) w w' ∧ (∀ b, Im b → Im' b) ∧
      (∀ b, Im' b → Im b ∨ w.heap.size ≤ b ∨ ownB ρ b) ∧ (∀ b, ownB ρ' b → w.heap.size ≤ b ∨ ownB ρ b) ∧ (∀ q, q < A.mm → ρ' q = ρ q ∨ ρ' q = .gone) := by
      rintro v w' res m' ⟨Im2, ρ2, h1, h2, h3, h4, h5, h6, h7⟩
      exact ⟨v, Im2, ρ2, rfl, h1, h2, h3, h4, h5, h6, h7⟩
    refine aexec_sound hD hm (rd := none) (fun h => by cases h) (c := c) rfl (fun h => by cases h) code (hT code hb).1 (hT code hb).2 _ _ (pn, res, m') _ Im ρ _ w h hmm (fun q hq => hnew q hq) hs ⟨?_, ?_⟩
    · intro e st Im' ρ' a' w' he hk hnx hf' hs'
      have fin : tagR false (finish A.cx.P A.mm fz fn st) = some (pn, res, m') → LeavesInM (FW none) 0 A.cx.P fn a'.tmps (fun e w' => ∃ v Im' ρ', e = endOf pn v ∧ RS w' Im' ρ' m' ∧ VR w' Im' ρ' res v ∧ Kp (ownB ρ) w w' ∧ (∀ b, Im b → Im' b) ∧
          (∀ b, Im' b → Im b ∨ w.heap.size ≤ b ∨ ownB ρ b) ∧ (∀ b, ownB ρ' b → w.heap.size ≤ b ∨ ownB ρ b) ∧ (∀ q, q < A.mm → ρ' q = ρ q ∨ ρ' q = .gone)) a'.defers .returning w' := by
        intro hfin
        obtain ⟨rfl, hfin2⟩ := tagR_eq hfin
        obtain ⟨rs, hR⟩ := hs'.df
        refine leaves_of (by intro h; cases h) rs a' w' hs' hR (fun w2 hs2 => ?_)
        obtain ⟨v, hrun, hE⟩ := finish_sound (c := c) rfl hfin2 hs2
        obtain ⟨v2, Im2, ρ2, h0, h1, h2, h3, h4, h5, h6, h7⟩ := ends v w2 res m' hE
        exact ⟨v, hrun, v2, Im2, ρ2, h0, h1, h2, h3, h4, h5, h6, h7⟩
      cases e with
      | normal => exact fin hk
      | ret => exact fin hk
      | panic ch => exact absurd rfl (he ch)
      | _ => cases hk
    · intro v u t2 m2 nx Im' ρ' a' w' hk hnx hf' hs'
      obtain ⟨rfl, hfin2⟩ := tagR_eq hk
      obtain ⟨rs, hR⟩ := hs'.df
      refine leaves_of (by intro h; cases h) rs { a' with tmps := #[u] ++ a'.tmps } w' hs' hR (fun w2 hs2 => ?_)
      have hE := finishP_sound (c := c) (st := ⟨v :: t2, m2, nx⟩) rfl hfin2 hs2 (u := u) (tl := a'.tmps.toList) (by simp)
      exact ends u w2 res m' hE
  · cases h

/-! ### A round -/
theorem splitY_ok : ∀ {avs args : List AV} {q : Nat}, splitY avs = some (args, q) → avs = args ++ [.oref .yield q]
  | [], args, q, h => by cases h
  | x :: l, args, q, h => by
    unfold splitY at h
    split at h
    · cases h
    · rename_i q' heq
      cases heq
      cases h
      rfl
    · rename_i y l' hne heq
      cases heq
      split at h
      · rename_i r q' hr
        cases h
        rw [splitY_ok hr]; rfl
      · cases h

theorem setAll_ok {w Im ρ} : ∀ {ps : List Nat} {t args : List AV} {vs : Array Value} {us : List Value}, VRs w Im ρ t vs.toList → VRs w Im ρ args us →
    VRs w Im ρ (setAll t ps args) ((ps.zip us).foldl (fun tmps (p : Nat × Value) => tmps.setIfInBounds p.1 p.2) vs).toList
  | [], t, args, vs, us, h, _ => by simpa [setAll] using h
  | p :: ps, t, [], vs, us, h, ha => by
    rw [VRs_nil] at ha
    subst ha
    simpa [setAll] using h
  | p :: ps, t, x :: xs, vs, us, h, ha => by
    obtain ⟨u, r, rfl, h1, h2⟩ := VRs_cons.1 ha
    simp only [setAll, List.zip_cons_cons, List.foldl_cons]
    refine setAll_ok (ps := ps) ?_ h2
    rw [Array.toList_setIfInBounds]
    exact VRs_set h p h1

theorem setAll_len : ∀ (ps : List Nat) (t args : List AV), (setAll t ps args).length = t.length
  | [], t, args => by cases args <;> rfl
  | p :: ps, t, [] => rfl
  | p :: ps, t, x :: xs => by simp [setAll, setAll_len ps]

theorem foldl_set_size : ∀ (l : List (Nat × Value)) (vs : Array Value), (l.foldl (fun tmps (p : Nat × Value) => tmps.setIfInBounds p.1 p.2) vs).size = vs.size
  | [], vs => rfl
  | p :: l, vs => by simp [foldl_set_size l]

/-- A range's row is put from one state to another. -/
theorem putSt_ok {c Im ρ t m a w} (h : SR c Im ρ t m a w) {q s0 s g : Nat} {m' : Rows} (hp : putSt m q s0 s = some m') (hq : ∀ g' n' c', ρ q = .blk g' n' c' → g' = g) (hmmq : q < c.mm) :
    ∃ rec, w.heap[g]? = some (.loop rec) ∧ LoopSt s0 rec ∧ ∀ rec', rec'.params = rec.params → rec'.assign = rec.assign → rec'.body = rec.body → rec'.tmps = rec.tmps → LoopSt s rec' → SR c Im ρ t m' a (w.putObj g (.loop rec')) := by
  unfold putSt at hp
  split at hp
  · rename_i e sz id s1 l hl
    cases hb : Nat.beq s1 s0 with
    | false => rw [hb] at hp; cases hp
    | true =>
    rw [hb] at hp
    simp only [cond_true, Option.some.injEq] at hp
    subst hp
    obtain rfl := Nat.eq_of_beq_eq_true hb
    obtain ⟨p1, p2, p3⟩ := h.rs.row _ _ hl
    cases hρ : ρ q with
    | unborn => rw [hρ] at p3; exact p3.elim
    | gone => rw [hρ] at p3; exact p3.elim
    | virt =>
      rw [hρ] at p3
      cases p3.2
    | blk g' n' c' =>
      rw [hρ] at p3
      obtain rfl := hq _ _ _ hρ
      obtain ⟨h0, rec, hg, hLA, hst, hv⟩ := p3
      refine ⟨rec, hg, hst, fun rec' e1 e2 e3 e4 hst' => ?_⟩
      have hlt : g' < w.heap.size := (Array.getElem?_eq_some_iff.1 hg).1
      have hE := Eff.setB (nb := c.mm) (y := ⟨e, sz, .loop id s l⟩) h.rs hl hρ (w' := w.putObj g' (.loop rec')) (kp_putObj _ _ _) p1 trivial
        (fun hk => ⟨h0, rec', World.putObj_heap_same hlt, by rw [e1, e2, e3]; exact hLA, hst', by rw [e4]; exact VRs_mono (fun b hb => h.rs.im_same hk b hb) (fun _ h => h) (Ext.refl _) _ _ hv⟩)
      exact h.step hE (Nat.le_refl _) none (x := .dead) (v := undef) trivial
  · cases hp
end Go.Proofs.YtfogafinohfpfaaGreatDoorV
