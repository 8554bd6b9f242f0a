/- A function that defers a closure which recovers. -/
import Derived.Test.YtfogafinohfpfaaGreatDoorVs2
import Derived.RecoverIn
namespace Go.Proofs.YtfogafinohfpfaaGreatDoorV
open Go.RowKit
set_option linter.unusedVariables false
set_option linter.unusedSimpArgs false

/-! ### What it comes to -/
/-- A region that defers a closure: which one, what it holds, where it lies. -/
def isDefer : Code → Option (FuncId × List Operand × Tmp)
  | .region _ ops false => match ops.toList with
    | [o0, o1] => match o0.guard, o0.dst, o0.op, o1.guard, o1.dst, o1.op with
      | none, some d, .makeFunc (.func f) first cap, none, none, .defer c => match c.callee, first.toList, c.args.toList with
        | .value (.tmp d'), [], [] => bif Nat.beq d' d then some (f, cap.toList, d) else none
        | _, _, _ => none
      | _, _, _, _, _, _ => none
    | _ => none
  | _ => none

/-- What stands ahead of it, it, what stands behind it. -/
def splitD : Code → Option (List Code × Code × Code)
  | .seq a b => match isDefer a with
    | some _ => some ([], a, b)
    | none => match splitD b with
      | some (l, d, r) => some (a :: l, d, r)
      | none => none
  | _ => none

/-- A region that recovers. -/
def isRec (ops : Array Oper) : Option (Tmp × Tmp) := match ops.toList with
  | [o0, o1] => match o0.guard, o0.dst, o0.op, o1.guard, o1.dst, o1.op with
    | none, some d1, .call c, none, some d2, .assign (.tmp d) => match c.callee with
      | .builtin .recover => bif Nat.beq d d1 then some (d1, d2) else none
      | _ => none
    | _, _, _, _, _, _ => none
  | _ => none

noncomputable def aexecL {R : Type} (A : Ann) : List Code → St → (Exit → St → Option R) → Option R
  | [], st, k => k .normal st
  | c :: l, st, k => aexec A c st fun e st' => match e with
    | .normal => aexecL A l st' k
    | e => k e st'

/-- The closure runs over what its function leaves. -/
noncomputable def closeR {R : Type} (A : Ann) (g : Func) (caps : List AV) (v : AV) (st : St) (k : St → Option R) : Option R := match g.body, g.results.toList with
  | some (.seq (.region _ ops false) rest), [] => match isRec ops with
    | some (d1, d2) =>
      let t1 : List AV := (caps ++ List.replicate (g.ntmps - caps.length) AV.dead).set d1 v
      aexec { A with mm := st.nx, tab := [], inr := true } rest ⟨t1.set d2 (t1.getD d1 AV.dead), st.m, st.nx⟩ fun e st4 => match e with
        | .normal => k ⟨st.t, st4.m, st4.nx⟩
        | .ret => k ⟨st.t, st4.m, st4.nx⟩
        | _ => none
    | none => none
  | _, _ => none

noncomputable def acallR (A A' : Ann) (fc : FuncId) (g : Func) (keep : List Nat) (fz : Bool) (fn : Func) (avs : List AV) (m : Rows) : Option (Bool × AV × Rows) := bif !Nat.ble A.mm m.length then none else match fn.body with
  | some c => match splitD c with
    | some (pre, D, post) => match isDefer D with
      | some (f, cap, d) => bif Nat.beq f fc && mB f then aexecL { A with tab := [], inr := true } pre ⟨avs ++ List.replicate (fn.ntmps - avs.length) AV.dead, m, m.length⟩ fun e st => match e with
        | .ret => tagR false (finish A.cx.P A.mm fz fn st)
        | .panic _ => tagR true (finishP A.mm st)
        | .normal => match evL A.cx.P st.t [] cap with
          | some vs =>
            let s2 := norm A.mm keep ⟨st.t.set d (.fn fc vs), st.m, st.nx⟩
            match s2.t.getD d AV.dead with
            | .fn f' caps => bif Nat.beq f' fc && Nat.beq A'.mm s2.nx then aexec A' post s2 fun e st3 => match e with
              | .normal => closeR A g caps .nili st3 fun st4 => tagR false (finish A.cx.P A.mm fz fn st4)
              | .ret => closeR A g caps .nili st3 fun st4 => tagR false (finish A.cx.P A.mm fz fn st4)
              | .panic _ => match st3.t with
                | v :: t => closeR A g caps v ⟨t, st3.m, st3.nx⟩ fun st4 => tagR false (finish A.cx.P A.mm fz fn st4)
                | [] => none
              | _ => none else none
            | _ => none
          | none => none
        | _ => none else none
      | none => none
    | none => none
  | none => none

/-! ### It is so -/
theorem SR.ext {c Im ρ t m a w nx nm ds Im' ρ' t' m' a' w'} (h : SR c Im ρ t m a w) (hnew : ∀ q, nx ≤ q → ρ q = .unborn) (h' : SR ⟨w, Im, ρ, nx, nm, ds⟩ Im' ρ' t' m' a' w') : Ext ρ ρ' := fun q => by
  rcases Nat.lt_or_ge q nx with hq | hq
  · rcases h'.root q hq with e | e
    · exact .inl e
    · exact .inr (.inl e)
  · exact .inr (.inr (hnew q hq))

/-- What was known of values is known still. -/
theorem SR.carry {c Im ρ t m a w nx nm ds Im' ρ' t' m' a' w'} (h : SR c Im ρ t m a w) (hnew : ∀ q, nx ≤ q → ρ q = .unborn) (h' : SR ⟨w, Im, ρ, nx, nm, ds⟩ Im' ρ' t' m' a' w') {l : List AV} {vs : List Value} (hv : VRs w Im ρ l vs) : VRs w' Im' ρ' l vs :=
  VRs_mono (fun b hb => h.rs.im_same h'.kp b hb) h'.im0 (h.ext hnew h') _ _ hv

/-- A part that was told from a state of its own, told from the first one. -/
theorem SR.out {c Im ρ t m a w nx nm ds Im' ρ' t' m' a' w'} (h : SR c Im ρ t m a w) (hmm : c.mm ≤ nx) (h' : SR ⟨w, Im, ρ, nx, nm, ds⟩ Im' ρ' t' m' a' w') : SR c Im' ρ' t' m' { a' with defers := c.ds0 } w' := by
  have hsz := h.kp.size
  refine ⟨h'.rs, h'.sz, h'.tm, Marks.nil, h.kp.trans h'.kp (fun _ h => h) (fun b hb => (h.own b hb).symm), fun b hb => h'.im0 b (h.im0 b hb), fun b hb => ?_, fun b hb => ?_, fun q hq => ?_⟩
  · rcases h'.imn b hb with e | e | e
    · exact h.imn b e
    · exact .inr (.inl (by simp only at e; omega))
    · exact .inr (h.own b e)
  · rcases h'.own b hb with e | e
    · exact .inl (by simp only at e; omega)
    · exact h.own b e
  · rcases h'.root q (by simp only; omega) with e | e
    · have := h.root q hq
      simp only at e
      rw [e]; exact this
    · exact .inr e

theorem SR.over {c Im ρ t m a w nx nm ds Im' ρ' t' m' a' w'} (h : SR c Im ρ t m a w) (hmm : c.mm ≤ nx) (hnew : ∀ q, nx ≤ q → ρ q = .unborn) (h' : SR ⟨w, Im, ρ, nx, nm, ds⟩ Im' ρ' t' m' a' w') : SR c Im' ρ' t m' { a with defers := c.ds0 } w' :=
  let h2 := h.out hmm h'
  ⟨h2.rs, h.sz, h.carry hnew h' h.tm, Marks.nil, h2.kp, h2.im0, h2.imn, h2.own, h2.root⟩

/-- A state is begun anew. -/
theorem SR.pin {c Im ρ t m a w} (h : SR c Im ρ t m a w) (nx : Nat) (nm : Bool) (ds : List Deferred) : SR ⟨w, Im, ρ, nx, nm, ds⟩ Im ρ t m { a with defers := ds } w :=
  ⟨h.rs, h.sz, h.tm, Marks.nil, Kp.refl _ _, fun _ h => h, fun _ h => .inl h, fun _ h => .inr h, fun _ _ => .inl rfl⟩

theorem toList2 {α : Type} {xs : Array α} {x y : α} (h : xs.toList = [x, y]) : xs = #[x, y] := by
  apply Array.ext'
  simpa using h

theorem wanted_free {o : Oper} {y : Nat → Option Bool} (h : o.guard = none) : Region.wanted o y = true := by
  unfold Region.wanted
  rw [h]

theorem isRec_ok {ops : Array Oper} {d1 d2 : Tmp} (h : isRec ops = some (d1, d2)) : ∃ o0 o1 c, ops = #[o0, o1] ∧ o0.guard = none ∧ o0.dst = some d1 ∧ o0.op = .call c ∧ c.callee = .builtin .recover ∧ o1.guard = none ∧ o1.dst = some d2 ∧ o1.op = .assign (.tmp d1) := by
  unfold isRec at h
  split at h
  · rename_i o0 o1 hops
    split at h
    · rename_i d1' c d2' d h1 h2 h3 h4 h5 h6
      split at h
      · rename_i hc
        obtain ⟨hd, h⟩ := cond_some' h
        cases h
        obtain rfl := Nat.eq_of_beq_eq_true hd
        exact ⟨o0, o1, c, toList2 hops, h1, h2, h3, hc, h4, h5, h6⟩
      · cases h
    · cases h
  · cases h
where
  cond_some' {α : Type} {c : Bool} {a : α} {r : α} (h : (bif c then some a else none) = some r) : c = true ∧ a = r := by
    cases c
    · cases h
    · cases h; exact ⟨rfl, rfl⟩

theorem closeR_ok {A : Ann} (hD : DOK A.cx) (hm : A.cx.P.follows .mixedOrders = true) {f : FuncId} {g : Func} (hg : A.cx.P.funcs[f]? = some g) (hT : ∀ id ops rest, g.body = some (.seq (.region id ops false) rest) → noRange rest = true)
    {R : Type} {caps : List AV} {v : AV} {st : St} {k : St → Option R} {r : R} (h : closeR A g caps v st k = some r) {c Im ρ a w} (hs : SR c Im ρ st.t st.m a w) (hmm : c.mm ≤ st.nx) (hnew : ∀ q, st.nx ≤ q → ρ q = .unborn)
    {cv : Array Value} (hcaps : VRs w Im ρ caps cv.toList) {u : Value} (hv : VR w Im ρ v u) {um : FrameMode} (hum : (um = .returning ∧ u = .nilIface) ∨ um = .panicking [{ v := u, recovered := false }])
    {Q : World → Prop} (hk : ∀ st4 Im' ρ' w', k st4 = some r → st4.t = st.t → SR c Im' ρ' st.t st4.m { a with defers := c.ds0 } w' → Q w') :
    CallsDIn (FW none) 0 A.cx.P f cv um w (fun e u' w' => (∃ v, e = .returned v) ∧ settle u' = .returning ∧ Q w') := by
  unfold closeR at h
  split at h
  · rename_i id ops rest hb hres
    split at h
    · rename_i d1 d2 hrec
      obtain ⟨o0, o1, cl, rfl, g0, s0, p0, hc, g1, s1, p1⟩ := isRec_ok hrec
      have hr0 : g.results = #[] := by apply Array.ext'; simpa using hres
      refine callsDIn_of_wpSIn hg hb trivial (fun c₀ cs hc0 => ?_)
      refine wpSIn_seq (wpSIn_region ?_)
      have hlen := VRs_len hcaps
      have ht0 : VRs w Im ρ (caps ++ List.replicate (g.ntmps - caps.length) AV.dead) (cv ++ Array.replicate (g.ntmps - cv.size) undef).toList := by
        simp only [Array.toList_append, Array.toList_replicate]
        refine VRs_append hcaps ?_
        have e : cv.size = caps.length := by rw [← hlen]; simp
        rw [e]
        generalize g.ntmps - caps.length = n
        clear h hb
        induction n with
        | zero => simp [VRs]
        | succ n ih => exact VRs_cons.2 ⟨undef, _, rfl, trivial, ih⟩
      have hx0 : ∀ b : Act, (execOp b.eval o0).run A.cx.P w = .ok .recover w := by
        intro b
        simp only [execOp, p0, resolve, hc, Sem.run_bind, Sem.run_pure, Result.andThen_ok, invoke]
        rfl
      -- what comes after the stack is settled
      have after : ∀ um', settle um' = .returning → wpOpsSIn (FW none) 0 A.cx.P #[o0, o1] (Exit.thenS (rest.wpSIn (FW none) 0 A.cx.P (bodyPostS A.cx.P g c₀ cs fun e u' w' => (∃ v, e = .returned v) ∧ settle u' = .returning ∧ Q w')) (bodyPostS A.cx.P g c₀ cs fun e u' w' => (∃ v, e = .returned v) ∧ settle u' = .returning ∧ Q w')) [1]
          (({ tmps := cv ++ Array.replicate (g.ntmps - cv.size) undef, defers := [] } : Act).put o0.dst u) ({ c₀ with mode := um' } :: cs) w := by
        intro um' hst
        have e1 : (#[o0, o1] : Array Oper)[1]? = some o1 := rfl
        simp only [wpOpsSIn, e1]
        refine ⟨fun _ _ => trivial, ?_⟩
        rw [wanted_free g1]
        simp only [if_true]
        have ht1 := VRs_put (a := { tmps := cv ++ Array.replicate (g.ntmps - cv.size) undef, defers := [] }) ht0 o0.dst hv
        generalize ha1 : (({ tmps := cv ++ Array.replicate (g.ntmps - cv.size) undef, defers := [] } : Act).put o0.dst u) = a1 at ht1 ⊢
        have hd1 : a1.defers = [] := by rw [← ha1, put_defers]
        have hx1 : (execOp a1.eval o1).run A.cx.P w = .ok (.value (a1.eval (.tmp d1))) w := by
          simp only [execOp, p1]
          rfl
        rw [hx1]
        simp only [Exit.thenS]
        have hget : VR w Im ρ ((putT (caps ++ List.replicate (g.ntmps - caps.length) AV.dead) o0.dst v).getD d1 AV.dead) (a1.eval (.tmp d1)) := by
          have := VRs_get ht1 d1
          simpa [Act.eval, Array.getD_eq_getD_getElem?, List.getD_eq_getElem?_getD] using this
        have ht2 := VRs_put ht1 o1.dst hget
        rw [s0, s1] at ht2
        simp only [putT] at ht2
        refine wpSIn_of_wpIn rfl ?_
        let c2 : Cst := ⟨w, Im, ρ, st.nx, true, []⟩
        have hs2 : SR c2 Im ρ (((caps ++ List.replicate (g.ntmps - caps.length) AV.dead).set d1 v).set d2 (((caps ++ List.replicate (g.ntmps - caps.length) AV.dead).set d1 v).getD d1 AV.dead)) st.m (a1.put o1.dst (a1.eval (.tmp d1))) w := by
          refine ⟨hs.rs, ?_, by rw [s1]; exact ht2, ?_, Kp.refl _ _, fun _ h => h, fun _ h => .inl h, fun _ h => .inr h, fun _ _ => .inl rfl⟩
          · have := VRs_len ht2
            rw [s1]
            rw [Array.length_toList] at this
            exact this
          · rw [put_defers, hd1]; exact Marks.nil
        have hTr := hT id _ rest hb
        refine aexec_sound (A := { A with mm := st.nx, tab := [], inr := true }) hD hm (rd := none) (fun h => by cases h) (c := c2) rfl (fun _ => rfl) rest (TOK.nil rfl rest) (lok_none hTr) _ _ r _ Im ρ _ w h (Nat.le_refl _) (fun q hq => hnew q hq) hs2 ⟨?_, ?_⟩
        · intro e st4 Im' ρ' a' w' he hk' hnx' hf' hs'
          have hd' : a'.defers = [] := by
            obtain ⟨rs, h1, h0, _⟩ := hs'.df
            rw [h1, h0 rfl]; rfl
          have fin : k ⟨st.t, st4.m, st4.nx⟩ = some r → a'.defers = [] ∧ ∃ u', ({ c₀ with mode := um' } :: cs : List Frame) = { c₀ with mode := u' } :: cs ∧ ∃ v, (results g a'.tmps).run A.cx.P w' = .ok v w' ∧ (∃ v', Ending.returned v = .returned v') ∧ settle u' = .returning ∧ Q w' := by
            intro hkk
            obtain ⟨uu, _, hrun⟩ := results_run (P := A.cx.P) (fn := g) hs'.rs hs'.tm (vs := []) (by rw [hres]; rfl)
            exact ⟨hd', um', rfl, uu, hrun, ⟨_, rfl⟩, hst, hk _ Im' ρ' w' hkk rfl (hs.over hmm hnew hs')⟩
          cases e with
          | normal => exact fin hk'
          | ret => exact fin hk'
          | _ => cases hk'
        · intro v' u' t' m' nx' Im' ρ' a' w' hk' _ _ _
          cases hk'
      have e0 : (#[o0, o1] : Array Oper)[0]? = some o0 := rfl
      show wpOpsSIn (FW none) 0 A.cx.P #[o0, o1] _ (List.range 2) _ _ w
      rw [show List.range 2 = [0, 1] from rfl]
      rw [wpOpsSIn]
      simp only [e0]
      refine ⟨fun _ _ => trivial, ?_⟩
      rw [wanted_free g0]
      simp only [if_true, hx0]
      rcases hum with ⟨rfl, rfl⟩ | rfl
      · have : recoverD (c₀ :: cs) = none := by simp [recoverD, hc0]
        rw [this]
        have this2 := after .returning rfl
        have e : ({ c₀ with mode := .returning } : Frame) = c₀ := by cases c₀; simp only at hc0; subst hc0; rfl
        rw [e] at this2
        exact this2
      · have : recoverD (c₀ :: cs) = some (u, { c₀ with mode := .panicking [{ v := u, recovered := true }] } :: cs) := by simp [recoverD, hc0]
        rw [this]
        exact after _ rfl
    · cases h
  · cases h

theorem isDefer_ok {c : Code} {f : FuncId} {cap : List Operand} {d : Tmp} (h : isDefer c = some (f, cap, d)) : ∃ id o0 o1 first cap' cl, c = .region id #[o0, o1] false ∧ o0.guard = none ∧ o0.dst = some d ∧ o0.op = .makeFunc (.func f) first cap' ∧ first = #[] ∧ cap'.toList = cap ∧ o1.guard = none ∧ o1.dst = none ∧ o1.op = .defer cl ∧ cl.callee = .value (.tmp d) ∧ cl.args = #[] := by
  unfold isDefer at h
  split at h
  · rename_i id ops
    split at h
    · rename_i o0 o1 hops
      split at h
      · rename_i d0 f0 first cap' cl h1 h2 h3 h4 h5 h6
        split at h
        · rename_i d' hc hfi har
          cases hb : Nat.beq d' d0 with
          | false => rw [hb] at h; cases h
          | true =>
            rw [hb] at h
            cases h
            obtain rfl := Nat.eq_of_beq_eq_true hb
            exact ⟨id, o0, o1, first, cap', cl, by rw [toList2 hops], h1, h2, h3, by apply Array.ext'; simpa using hfi, rfl, h4, h5, h6, hc, by apply Array.ext'; simpa using har⟩
        · cases h
      · cases h
    · cases h
  · cases h

theorem split_sound {A : Ann} (hD : DOK A.cx) (hm : A.cx.P.follows .mixedOrders = true) (htab : A.tab = []) (hin : A.inr = true) {c : Cst} (hmm : c.mm = A.mm) {R : Type} {D post : Code} {Q : Exit → Act → World → Prop} {k : Exit → St → Option R} {r : R}
    (hgo : ∀ st Im ρ a w, k .normal st = some r → A.mm ≤ st.nx → (∀ q, st.nx ≤ q → ρ q = .unborn) → SR c Im ρ st.t st.m a w → (Code.seq D post).wpIn (FW none) 0 A.cx.P Q a w)
    (hex : ∀ e st Im ρ a w, e ≠ .normal → (∀ ch, e ≠ .panic ch) → k e st = some r → A.mm ≤ st.nx → (∀ q, st.nx ≤ q → ρ q = .unborn) → SR c Im ρ st.t st.m a w → Q e a w)
    (hpan : ∀ v u t m nx Im ρ a w, k (.panic []) ⟨v :: t, m, nx⟩ = some r → A.mm ≤ nx → (∀ q, nx ≤ q → ρ q = .unborn) → SR c Im ρ (v :: t) m { a with tmps := #[u] ++ a.tmps } w → Q (.panic [{ v := u, recovered := false }]) a w) :
    ∀ (code : Code) (pre : List Code), splitD code = some (pre, D, post) → pre.all noRange = true → ∀ (st : St) Im ρ a w, aexecL A pre st k = some r → A.mm ≤ st.nx → (∀ q, st.nx ≤ q → ρ q = .unborn) → SR c Im ρ st.t st.m a w → code.wpIn (FW none) 0 A.cx.P Q a w := by
  intro code
  induction code with
  | seq x y ihx ihy =>
    intro pre hsp hnr st Im ρ a w h hnx hf hs
    simp only [splitD] at hsp
    split at hsp
    · cases hsp
      exact hgo st Im ρ a w h hnx hf hs
    · split at hsp
      · rename_i l d r' hl
        cases hsp
        simp only [List.all_cons, Bool.and_eq_true] at hnr
        simp only [aexecL] at h
        refine wpIn_seq (aexec_sound hD hm (rd := none) (fun h => by cases h) (c := c) hmm (fun _ => hin) x (TOK.nil htab x) (lok_none hnr.1) st _ r _ Im ρ a w h hnx hf hs ⟨?_, ?_⟩)
        · intro e st' Im' ρ' a' w' he h' hnx' hf' hs'
          cases e with
          | normal => exact ihy l hl hnr.2 st' Im' ρ' a' w' h' hnx' hf' hs'
          | panic ch => exact absurd rfl (he ch)
          | _ => exact hex _ st' Im' ρ' a' w' (fun e => by cases e) (fun ch e => by cases e) h' hnx' hf' hs'
        · intro v u t m nx Im' ρ' a' w' h' hnx' hf' hs'
          exact hpan v u t m nx Im' ρ' a' w' h' hnx' hf' hs'
      · cases hsp
  | _ => intro pre hsp; simp [splitD] at hsp

theorem SR.tail {c Im ρ v t m a w u} (h : SR c Im ρ (v :: t) m { a with tmps := #[u] ++ a.tmps } w) : SR c Im ρ t m a w ∧ VR w Im ρ v u := by
  have ht := h.tm
  simp only [Array.toList_append, List.cons_append, List.nil_append] at ht
  obtain ⟨u', r', hu', hv, hr⟩ := VRs_cons.1 ht
  simp only [List.cons.injEq] at hu'
  obtain ⟨rfl, rfl⟩ := hu'
  refine ⟨⟨h.rs, ?_, hr, h.df, h.kp, h.im0, h.imn, h.own, h.root⟩, hv⟩
  have := h.sz
  simp at this
  omega

theorem SR.cons {c Im ρ v t m a w u} (h : SR c Im ρ t m a w) (hv : VR w Im ρ v u) : SR c Im ρ (v :: t) m { a with tmps := #[u] ++ a.tmps } w :=
  ⟨h.rs, by have := h.sz; simp; omega, by simpa using VRs_cons.2 ⟨u, _, rfl, hv, h.tm⟩, h.df, h.kp, h.im0, h.imn, h.own, h.root⟩

theorem acallR_ok {A A' : Ann} (hD : DOK A.cx) (hcx : A'.cx = A.cx) (hm : A.cx.P.follows .mixedOrders = true) {f : FuncId} (hfb : fnB f = true) {fn : Func} (hf : A.cx.P.funcs[f]? = some fn)
    {fc : FuncId} {g : Func} (hg : A.cx.P.funcs[fc]? = some g) (hge : Enters A.cx.P fc) {keep : List Nat} {fz : Bool} {avs : List AV} {m : Rows} {pn : Bool} {res : AV} {m' : Rows}
    (hT : ∀ c pre D post, fn.body = some c → splitD c = some (pre, D, post) → pre.all noRange = true ∧ TOK A' post ∧ LOK A' post)
    (hgT : ∀ id ops rest, g.body = some (.seq (.region id ops false) rest) → noRange rest = true)
    (h : acallR A A' fc g keep fz fn avs m = some (pn, res, m')) : CallOK A.cx.P f A.mm avs m pn res m' := by
  intro w Im ρ vals hrs hv hnew
  unfold acallR at h
  cases hle : Nat.ble A.mm m.length with
  | false => rw [hle] at h; cases h
  | true =>
  rw [hle] at h
  simp only [Bool.not_true, cond_false] at h
  have hmm : A.mm ≤ m.length := Nat.le_of_ble_eq_true hle
  split at h
  case h_2 => cases h
  rename_i code hb
  split at h
  case h_2 => cases h
  rename_i pre D post hsp
  split at h
  case h_2 => cases h
  rename_i f' cap d hdef
  cases hff : Nat.beq f' fc && mB f' with
  | false => rw [hff] at h; cases h
  | true =>
  rw [hff] at h
  simp only [cond_true] at h
  simp only [Bool.and_eq_true] at hff
  obtain ⟨hff, hmbf⟩ := hff
  obtain rfl := Nat.eq_of_beq_eq_true hff
  obtain ⟨hTpre, hTp, hLp⟩ := hT code pre D post hb hsp
  unfold Goes
  rw [hfb]
  refine callsIn_FW.1 (callsIn_of_wp_marks (F := FW none) (n := 0) hf hb trivial ?_)
  have hlen := VRs_len hv
  let c : Cst := ⟨w, Im, ρ, A.mm, true, []⟩
  have hs : SR c Im ρ (avs ++ List.replicate (fn.ntmps - avs.length) AV.dead) m { tmps := vals.toArray ++ Array.replicate (fn.ntmps - vals.toArray.size) undef, defers := [] } w := by
    refine ⟨hrs, by simp [hlen], ?_, Marks.nil, Kp.refl _ _, fun _ h => h, fun _ h => .inl h, fun _ h => .inr h, fun _ _ => .inl rfl⟩
    simp only [Array.toList_append, List.size_toArray, hlen, Array.toList_replicate]
    refine VRs_append hv ?_
    generalize fn.ntmps - avs.length = n
    clear hb h hf
    induction n with
    | zero => simp [VRs]
    | succ n ih => exact VRs_cons.2 ⟨undef, _, rfl, trivial, ih⟩
  have ends : ∀ v w' res m', Ends c res m' v w' → ∃ v2 Im' ρ', endOf pn v = endOf pn v2 ∧ RS w' Im' ρ' m' ∧ VR w' Im' ρ' res v2 ∧ Kp (ownB ρ) w w' ∧ (∀ b, Im b → Im' b) ∧
    (∀ b, Im' b → Im b ∨ w.heap.size ≤ b ∨ ownB ρ b) ∧ (∀ b, ownB ρ' b → w.heap.size ≤ b ∨ ownB ρ b) ∧ (∀ q, q < A.mm → ρ' q = ρ q ∨ ρ' q = .gone) := by
    rintro v w' res m' ⟨Im2, ρ2, h1, h2, h3, h4, h5, h6, h7⟩
    exact ⟨v, Im2, ρ2, rfl, h1, h2, h3, h4, h5, h6, h7⟩
  have fin : ∀ {st : St} {Im' ρ' a' w'}, tagR false (finish A.cx.P A.mm fz fn st) = some (pn, res, m') → SR c Im' ρ' st.t st.m a' w' → ∃ v, (results fn a'.tmps).run A.cx.P w' = .ok v w' ∧ (fun e w' => ∃ v Im' ρ', e = endOf pn v ∧ RS w' Im' ρ' m' ∧ VR w' Im' ρ' res v ∧ Kp (ownB ρ) w w' ∧ (∀ b, Im b → Im' b) ∧
          (∀ b, Im' b → Im b ∨ w.heap.size ≤ b ∨ ownB ρ b) ∧ (∀ b, ownB ρ' b → w.heap.size ≤ b ∨ ownB ρ b) ∧ (∀ q, q < A.mm → ρ' q = ρ q ∨ ρ' q = .gone)) (.returned v) w' := by
    intro st Im' ρ' a' w' hfin hs'
    obtain ⟨rfl, hfin2⟩ := tagR_eq hfin
    obtain ⟨v, hrun, hE⟩ := finish_sound (c := c) rfl hfin2 hs'
    obtain ⟨v2, Im2, ρ2, h0, h1, h2, h3, h4, h5, h6, h7⟩ := ends v w' res m' hE
    exact ⟨v, hrun, v2, Im2, ρ2, h0, h1, h2, h3, h4, h5, h6, h7⟩
  have nod : ∀ {Im' ρ' t m2 a' w'}, SR c Im' ρ' t m2 a' w' → a'.defers = [] := by
    intro Im' ρ' t m2 a' w' hs'
    obtain ⟨rs, h1, h0, _⟩ := hs'.df
    rw [h1, h0 rfl]; rfl
  refine split_sound (A := { A with tab := [], inr := true }) hD hm rfl rfl (c := c) rfl ?_ ?_ ?_ code pre hsp hTpre _ Im ρ _ w h hmm (fun q hq => hnew q hq) hs
  · -- it goes on
    intro st Im1 ρ1 a1 w1 hk hnx hf1 hs1
    simp only at hk
    split at hk
    case h_2 => cases hk
    rename_i vs hvs
    obtain ⟨id, o0, o1, first, cap', cl, rfl, g0, s0, p0, hfi, hcap, g1, s1, p1, hcal, har⟩ := isDefer_ok hdef
    have hmk : (execOp a1.eval o0).run A.cx.P w1 = .ok (.value (.func (.func f') #[] (cap'.map a1.eval))) w1 := by
      have e : (#[] : Array Operand).map a1.eval = #[] := by simp
      have h0 : (Instr.makeFunc (.func f') #[] (cap'.map a1.eval)).run A.cx.P w1 = .ok (.func (.func f') #[] (cap'.map a1.eval)) w1 := rfl
      simp only [execOp, p0, hfi, e, Sem.run_bind, h0, Result.andThen_ok]
      rfl
    have hvr : VR w1 Im1 ρ1 (.fn f' vs) (.func (.func f') #[] (cap'.map a1.eval)) := by
      refine ⟨cap'.map a1.eval, (fval_fn hmbf _).symm, ?_⟩
      have := evL_ok hs1.tm hvs
      rw [← hcap] at this
      simpa using this
    have hs1' := hs1.step (Eff.none (nb := st.nx) hs1.rs) (by exact hnx) (some d) hvr
    simp only [putT] at hs1'
    generalize ha2 : a1.put (some d) (.func (.func f') #[] (cap'.map a1.eval)) = a2 at hs1'
    obtain ⟨ρ2, hs2, hnx2, hf2⟩ := norm_sound (mm := A.mm) (keep := keep) (st := ⟨st.t.set d (.fn f' vs), st.m, st.nx⟩) rfl hs1'
    generalize norm A.mm keep ⟨st.t.set d (.fn f' vs), st.m, st.nx⟩ = s2 at hk hs2 hnx2 hf2
    split at hk
    case h_2 => cases hk
    rename_i f2 caps hcaps
    cases hc : Nat.beq f2 f' && Nat.beq A'.mm s2.nx with
    | false => rw [hc] at hk; cases hk
    | true =>
    rw [hc] at hk
    simp only [cond_true] at hk
    simp only [Bool.and_eq_true, Nat.beq_eq] at hc
    obtain ⟨rfl, hmm'⟩ := hc
    have hcv : VR w1 Im1 ρ2 (.fn f2 caps) (a2.eval (.tmp d)) := by
      have := VRs_get hs2.tm d
      rw [hcaps] at this
      simpa [Act.eval, Array.getD_eq_getD_getElem?, List.getD_eq_getElem?_getD] using this
    obtain ⟨cv, hev, hcvs⟩ := hcv
    rw [fval_fn hmbf] at hev
    let dcl : Deferred := { target := .fn (.func f2) cv, args := #[] }
    let c1 : Cst := ⟨w1, Im1, ρ2, A'.mm, false, [dcl]⟩
    have hd2 : a2.defers = [] := nod hs2
    have hs3 : SR c1 Im1 ρ2 s2.t s2.m { a2 with defers := [dcl] } w1 := hs2.pin _ _ _
    -- what the closure does at the end
    have close : ∀ {v : AV} {st3 : St} {u : Value} {um : FrameMode} {Im3 ρ3} {a3 : Act} {w3 : World}, closeR A g caps v st3 (fun st4 => tagR false (finish A.cx.P A.mm fz fn st4)) = some (pn, res, m') → A'.mm ≤ st3.nx → (∀ q, st3.nx ≤ q → ρ3 q = .unborn) → SR c1 Im3 ρ3 (v :: st3.t) st3.m { a3 with tmps := #[u] ++ a3.tmps } w3 →
        ((um = .returning ∧ u = .nilIface) ∨ um = .panicking [{ v := u, recovered := false }]) → LeavesInM (FW none) 0 A.cx.P fn a3.tmps (fun e w' => ∃ v Im' ρ', e = endOf pn v ∧ RS w' Im' ρ' m' ∧ VR w' Im' ρ' res v ∧ Kp (ownB ρ) w w' ∧ (∀ b, Im b → Im' b) ∧
          (∀ b, Im' b → Im b ∨ w.heap.size ≤ b ∨ ownB ρ b) ∧ (∀ b, ownB ρ' b → w.heap.size ≤ b ∨ ownB ρ b) ∧ (∀ q, q < A.mm → ρ' q = ρ q ∨ ρ' q = .gone)) a3.defers um w3 := by
      intro v st3 u um Im3 ρ3 a3 w3 hcl hnx3 hf3 hs4 hum
      obtain ⟨rs, hR⟩ := hs4.df
      have hrun : um ≠ .run := by rcases hum with ⟨rfl, _⟩ | rfl <;> intro h <;> cases h
      refine leaves_of (c := c1) hrun rs { a3 with tmps := #[u] ++ a3.tmps } w3 hs4 hR (fun w4 hs5 => ?_)
      obtain ⟨hs6, hv6⟩ := SR.tail (a := { a3 with defers := c1.ds0 }) hs5
      have hcaps4 := hs2.carry (nx := A'.mm) (fun q hq => hf2 q (by omega)) hs6 hcvs
      have hcall := closeR_ok hD hm hg hgT hcl hs6 (by exact hnx3) hf3 hcaps4 hv6 hum (Q := fun w5 => ∃ vv, (results fn a3.tmps).run A.cx.P w5 = .ok vv w5 ∧ (fun e w' => ∃ v Im' ρ', e = endOf pn v ∧ RS w' Im' ρ' m' ∧ VR w' Im' ρ' res v ∧ Kp (ownB ρ) w w' ∧ (∀ b, Im b → Im' b) ∧
          (∀ b, Im' b → Im b ∨ w.heap.size ≤ b ∨ ownB ρ b) ∧ (∀ b, ownB ρ' b → w.heap.size ≤ b ∨ ownB ρ b) ∧ (∀ q, q < A.mm → ρ' q = ρ q ∨ ρ' q = .gone)) (.returned vv) w5)
        (fun st4 Im' ρ' w5 hkk ht hs7 => by
          have hs8 := hs2.out (by show A.mm ≤ A'.mm; have := hnx2; omega) hs7
          rw [← ht] at hs8
          exact fin (a' := { a3 with defers := c.ds0 }) hkk hs8)
      refine ⟨hrun, .inr ⟨fun h => (by cases h), .func f2, cv, f2, cv, rfl, ?_, fun _ _ => trivial, hcall.mono ?_⟩⟩
      · have := hge (#[] ++ cv) w4
        simpa [invoke, dcl] using this
      · rintro e u' w5 ⟨⟨v', rfl⟩, hset, hQ⟩
        show LeavesInM (FW none) 0 A.cx.P fn a3.tmps _ [] (settle u') w5
        rw [hset]
        exact hQ
    have hpost : post.wpIn (FW none) 0 A.cx.P (bodyPostM (FW none) 0 A.cx.P fn (fun e w' => ∃ v Im' ρ', e = endOf pn v ∧ RS w' Im' ρ' m' ∧ VR w' Im' ρ' res v ∧ Kp (ownB ρ) w w' ∧ (∀ b, Im b → Im' b) ∧
          (∀ b, Im' b → Im b ∨ w.heap.size ≤ b ∨ ownB ρ b) ∧ (∀ b, ownB ρ' b → w.heap.size ≤ b ∨ ownB ρ b) ∧ (∀ q, q < A.mm → ρ' q = ρ q ∨ ρ' q = .gone))) { a2 with defers := [dcl] } w1 := by
      have := aexec_sound (A := A') (by rw [hcx]; exact hD) (by rw [hcx]; exact hm) (rd := none) (fun h => by cases h) (c := c1) rfl (fun h => by cases h) post hTp hLp s2 _ (pn, res, m') (bodyPostM (FW none) 0 A.cx.P fn (fun e w' => ∃ v Im' ρ', e = endOf pn v ∧ RS w' Im' ρ' m' ∧ VR w' Im' ρ' res v ∧ Kp (ownB ρ) w w' ∧ (∀ b, Im b → Im' b) ∧
          (∀ b, Im' b → Im b ∨ w.heap.size ≤ b ∨ ownB ρ b) ∧ (∀ b, ownB ρ' b → w.heap.size ≤ b ∨ ownB ρ b) ∧ (∀ q, q < A.mm → ρ' q = ρ q ∨ ρ' q = .gone))) Im1 ρ2 { a2 with defers := [dcl] } w1 hk (by omega) hf2 hs3 ⟨?_, ?_⟩
      · rw [hcx] at this; exact this
      · intro e st3 Im3 ρ3 a3 w3 he hk3 hnx3 hf3 hs4
        cases e with
        | normal => exact close hk3 hnx3 hf3 (hs4.cons (v := .nili) (u := .nilIface) rfl) (.inl ⟨rfl, rfl⟩)
        | ret => exact close hk3 hnx3 hf3 (hs4.cons (v := .nili) (u := .nilIface) rfl) (.inl ⟨rfl, rfl⟩)
        | panic ch => exact absurd rfl (he ch)
        | _ => cases hk3
      · intro v u t3 m3 nx3 Im3 ρ3 a3 w3 hk3 hnx3 hf3 hs4
        exact close (st3 := ⟨t3, m3, nx3⟩) hk3 hnx3 hf3 hs4 (.inr rfl)
    refine wpIn_seq (wpIn_region ?_)
    have e0 : (#[o0, o1] : Array Oper)[0]? = some o0 := rfl
    have e1 : (#[o0, o1] : Array Oper)[1]? = some o1 := rfl
    show wpOpsIn (FW none) 0 A.cx.P #[o0, o1] _ (List.range 2) a1 w1
    rw [show List.range 2 = [0, 1] from rfl, wpOpsIn]
    simp only [e0]
    rw [if_pos (wanted_free g0)]
    refine wp_valueN (by intro c hc; rw [p0] at hc; cases hc) hmk ?_
    rw [s0, ha2, wpOpsIn]
    simp only [e1]
    rw [if_pos (wanted_free g1)]
    refine ⟨fun _ _ => trivial, ?_⟩
    have hx1 : (o1.semAt (FW none).round a2.eval).run A.cx.P w1 = .ok (.defer dcl) w1 := by
      show (execOp a2.eval o1).run A.cx.P w1 = _
      simp only [execOp, p1, resolve, hcal, hev, har, Deferred.ofValue, Sem.run_bind, Sem.run_pure, Result.andThen_ok]
      have e : (#[] ++ Array.map a2.eval #[] : Array Value) = #[] := by simp
      rw [e]
    rw [hx1, Oper.uponIn_defer, s1, hd2]
    exact hpost
  · intro e st Im1 ρ1 a1 w1 hne hnp hk hnx hf1 hs1
    cases e with
    | normal => exact absurd rfl hne
    | panic ch => exact absurd rfl (hnp ch)
    | ret =>
      have := fin hk hs1
      show LeavesInM (FW none) 0 A.cx.P fn a1.tmps _ a1.defers .returning w1
      rw [nod hs1]
      exact this
    | _ => cases hk
  · intro v u t m2 nx Im1 ρ1 a1 w1 hk hnx hf1 hs1
    obtain ⟨rfl, hfin2⟩ := tagR_eq hk
    show LeavesInM (FW none) 0 A.cx.P fn a1.tmps _ a1.defers (.panicking [{ v := u, recovered := false }]) w1
    rw [show a1.defers = [] from nod (a' := { a1 with tmps := #[u] ++ a1.tmps }) hs1]
    have hE := finishP_sound (c := c) (st := ⟨v :: t, m2, nx⟩) rfl hfin2 hs1 (u := u) (tl := a1.tmps.toList) (by simp)
    exact ends u w1 res m' hE
end Go.Proofs.YtfogafinohfpfaaGreatDoorV
