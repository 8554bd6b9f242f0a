/- Operations, regions and code: what the interpreter comes to is what the machine comes to. -/
import Derived.Test.YtklnpdnfjponpaaDoorVk
namespace Go.Proofs.YtklnpdnfjponpaaDoorV
open Go.RowKit
set_option linter.unusedVariables false
set_option linter.unusedSimpArgs false

variable {w : World} {Im : Nat → Prop} {ρ : Nat → Loc} {m : Rows}

section
variable {P : Program} {o : Oper} {a : Act} {Q : Exit → Act → World → Prop} {next : Act → World → Prop}
theorem wp_value {s : Sem Value} {v w'} (ho : execOp a.eval o = do pure (.value (← s))) (hs : s.run P w = .ok v w') (h : next (a.put o.dst v) w') : o.wp P a w next Q := by
  unfold Oper.wp
  rw [ho]
  simp only [Sem.run_bind, hs, Result.andThen_ok, Sem.run_pure]
  exact h
theorem wp_val {v} (ho : execOp a.eval o = pure (.value v)) (h : next (a.put o.dst v) w) : o.wp P a w next Q := by
  unfold Oper.wp
  rw [ho]
  exact h
theorem wp_valueN {v w'} (ho : (execOp a.eval o).run P w = .ok (.value v) w') (h : next (a.put o.dst v) w') : o.wp P a w next Q := by
  unfold Oper.wp
  rw [ho]
  exact h
theorem wp_skip' {s : Sem Unit} {w'} (ho : execOp a.eval o = do s; pure .skip) (hs : s.run P w = .ok () w') (h : next (a.put o.dst undef) w') : o.wp P a w next Q := by
  unfold Oper.wp
  rw [ho]
  simp only [Sem.run_bind, hs, Result.andThen_ok, Sem.run_pure]
  exact h
theorem wp_enter {f args} (ho : (execOp a.eval o).run P w = .ok (.enter f args) w)
    (h : Calls P f args w fun e w' => ∃ v, e = .returned v ∧ next (a.put o.dst v) w') : o.wp P a w next Q := by
  unfold Oper.wp
  rw [ho, Oper.upon_enter]
  refine h.mono ?_
  rintro e w' ⟨v, rfl, hn⟩
  exact hn
end

theorem evOpt_ok {P : Program} {t : List AV} {a : Act} (ht : VRs w Im ρ t a.tmps.toList) {ty : TypeId} {x : Option Operand} {y : Option AV} (h : evOpt P t ty x = some y) :
    OptVR w Im ρ y (x.map a.eval) := by
  cases x with
  | none => simp only [evOpt, Option.some.injEq] at h; subst h; trivial
  | some v =>
    simp only [evOpt] at h
    split at h
    · rename_i z hz
      simp only [Option.some.injEq] at h; subst h
      exact evO_ok ht hz
    · cases h

set_option maxHeartbeats 2000000 in
theorem op_sound {cx : Cx} (hD : DOK cx) {o : Oper} {nb : Nat} {t : List AV} {d : Dl} (h : (adel cx o nb t m).get = some d) (hr : RS w Im ρ m) {a : Act} (ht : VRs w Im ρ t a.tmps.toList)
    (hf : ∀ q, nb ≤ q → q < nb + 64 → ρ q = .unborn) {Q : Exit → Act → World → Prop} {next : Act → World → Prop}
    (hn : ∀ v w' Im' ρ', Eff nb Im ρ w Im' ρ' (upR m d.up) w' → VR w' Im' ρ' d.v v → next (a.put o.dst v) w') : o.wp cx.P a w next Q := by
  have quiet : ∀ {s : Sem Value}, execOp a.eval o = (do pure (.value (← s))) → Quiet w Im ρ cx.P d s → o.wp cx.P a w next Q := by
    intro s ho hq
    obtain ⟨v, w', Im', ρ', h1, h2, h3⟩ := Quiet.does (nb := nb) hq hr
    exact wp_value ho h1 (hn v w' Im' ρ' h2 h3)
  have does : ∀ {s : Sem Value}, execOp a.eval o = (do pure (.value (← s))) → Does nb Im ρ m w cx.P d s → o.wp cx.P a w next Q := by
    intro s ho hq
    obtain ⟨v, w', Im', ρ', h1, h2, h3⟩ := hq
    exact wp_value ho h1 (hn v w' Im' ρ' h2 h3)
  have plain : ∀ {v : Value}, execOp a.eval o = pure (.value v) → d.up = [] → VR w Im ρ d.v v → o.wp cx.P a w next Q := by
    intro v ho hu hv
    exact wp_val ho (hn v w Im ρ (by rw [hu]; exact Eff.none hr) hv)
  unfold adel at h
  simp only at h
  split at h
  · -- move
    rename_i x hop
    split at h
    · rename_i v hx
      obtain rfl := get_pure h
      exact plain (by simp only [execOp, hop]) rfl (evO_ok ht hx)
    · cases h
  · -- assign
    rename_i x hop
    split at h
    · rename_i v hx
      split at h
      · rename_i v' m' hm
        obtain ⟨_, rfl⟩ := get_val h
        obtain ⟨ρ', hE, hv'⟩ := matV_ok hm hr (evO_ok ht hx) hf
        exact wp_val (by simp only [execOp, hop]) (hn _ w Im ρ' hE hv')
      · cases h
    · cases h
  · -- pick
    rename_i c x y hop
    split at h
    · rename_i b u v hc hx hy
      obtain rfl := get_pure h
      have hcb := evO_ok ht hc
      simp only [VR] at hcb
      refine wp_value (s := (pure (if b = true then a.eval x else a.eval y) : Sem Value)) ?_ (Sem.run_pure _ _ _) (hn _ w Im ρ (Eff.none hr) (pick2_ok (evO_ok ht hx) (evO_ok ht hy)))
      simp only [execOp, hop, hcb, asBool, pure_bind]
    · cases h
  · -- alloc
    rename_i e hop
    split at h
    · rename_i z hz
      exact does (by simp only [execOp, hop]) (opAlloc_ok hz h hr hf)
    · cases h
  · -- box
    rename_i e x hop
    split at h
    · rename_i v hx
      exact does (by simp only [execOp, hop]) (opBox_ok h hr (evO_ok ht hx) hf)
    · cases h
  · -- build
    rename_i ty parts hop
    refine quiet (s := Instr.build ty (parts.toList.map fun p => (p.1, a.eval p.2)).toArray) ?_ (opBuild_ok h hr ht)
    simp only [execOp, hop]
    congr 2
    have : (parts.toList.map fun p => (p.1, a.eval p.2)).toArray = parts.map fun x => (x.1, a.eval x.2) := by apply Array.ext'; simp
    rw [this]
  · -- buildSlice
    rename_i ty len parts hop
    refine does (s := Instr.buildSlice ty len (parts.toList.map fun p => (p.1, a.eval p.2)).toArray) ?_ (opBuildSlice_ok h hr ht hf)
    simp only [execOp, hop]
    congr 2
    have : (parts.toList.map fun p => (p.1, a.eval p.2)).toArray = parts.map fun x => (x.1, a.eval x.2) := by apply Array.ext'; simp
    rw [this]
  · -- load
    rename_i ty x hop
    split at h
    · rename_i v hx
      exact quiet (by simp only [execOp, hop]) (opLoad_ok h hr (evO_ok ht hx))
    · cases h
  · -- store
    rename_i ty x y hop
    split at h
    · rename_i u v hx hy
      obtain ⟨hdv, w', ρ', h1, h2⟩ := opStore_ok h hr (evO_ok ht hx) (evO_ok ht hy) hf
      exact wp_skip' (by simp only [execOp, hop]) h1 (hn undef w' Im ρ' h2 (by rw [hdv]; simp only [VR]))
    · cases h
  · -- nilCheck
    rename_i x hop
    split at h
    · rename_i v hx
      obtain ⟨hu, hv, ad, e⟩ := opNilCheck_ok h hr (evO_ok ht hx)
      refine plain (v := a.eval x) ?_ hu hv
      simp only [execOp, hop, e]
    · cases h
  · -- binOp
    rename_i op xt x y yt hop
    split at h
    · rename_i u v hx hy
      exact quiet (s := (do eqGuard op xt x y (a.eval x) (a.eval y); binOp op xt (a.eval x) (a.eval y))) (by simp only [execOp, hop]) (bin2_ok h hr (evO_ok ht hx) (evO_ok ht hy) x y)
    · cases h
  · -- unOp
    rename_i op xt x hop
    split at h
    · rename_i u hx
      exact quiet (by simp only [execOp, hop]) (un_ok h (evO_ok ht hx))
    · cases h
  · -- convert
    rename_i s ty x hop
    split at h
    · rename_i u hx
      exact does (by simp only [execOp, hop]) (conv2_ok h hr (evO_ok ht hx) hf)
    · cases h
  · -- makeFunc
    rename_i f first cap hop
    split at h
    · rename_i l hfirst hl
      obtain rfl := get_pure h
      have hf0 : first = #[] := by apply Array.ext'; simpa using hfirst
      refine wp_value (s := Instr.makeFunc (.func f) (first.map a.eval) (cap.map a.eval)) (by simp only [execOp, hop]) rfl (hn _ w Im ρ (Eff.none hr) ?_)
      refine ⟨cap.map a.eval, by rw [hf0]; simp, ?_⟩
      have := evL_ok ht hl
      simpa using this
    · cases h
  · -- makeSlice
    rename_i ty l c hop
    split at h
    · rename_i u v hx hy
      exact does (by simp only [execOp, hop]) (opMake_ok h hr (evO_ok ht hx) (evO_ok ht hy) hf)
    · cases h
  · -- slice
    rename_i ty x lo hi mx hop
    split at h
    · rename_i u lo' hi' mx' hx hlo hhi hmx
      refine quiet (s := Instr.sliceAt ty (a.eval x) (lo.map a.eval) (hi.map a.eval) (mx.map a.eval)) (by simp only [execOp, hop]) (opSlice_ok h hr (evO_ok ht hx) ?_ ?_ ?_)
      · exact evOpt_ok ht hlo
      · exact evOpt_ok ht hhi
      · exact evOpt_ok ht hmx
    · cases h
  · -- fieldAddr
    rename_i ty x f hop
    split at h
    · rename_i u hx
      exact quiet (by simp only [execOp, hop]) (opFieldAddr_ok h hr (evO_ok ht hx))
    · cases h
  · -- field
    rename_i ty x f hop
    split at h
    · rename_i u hx
      exact quiet (by simp only [execOp, hop]) (opField_ok h (evO_ok ht hx))
    · cases h
  · -- indexAddr
    rename_i ty x i hop
    split at h
    · rename_i u v hx hi
      exact quiet (by simp only [execOp, hop]) (opIndexAddr_ok h hr (evO_ok ht hx) (evO_ok ht hi))
    · cases h
  · -- index
    rename_i ty x i hop
    split at h
    · rename_i u v hx hi
      exact quiet (by simp only [execOp, hop]) (opIndex_ok h (evO_ok ht hx) (evO_ok ht hi))
    · cases h
  · -- extract
    rename_i x i hop
    split at h
    · rename_i l hx
      split at h
      · rename_i v hl
        obtain rfl := get_pure h
        obtain ⟨cs, e, hv⟩ := evO_ok ht hx
        have hg := VRs_get hv i
        have hi : i < l.length := (List.getElem?_eq_some_iff.1 hl).1
        have hlen := VRs_len hv
        have hcs : cs[i]? = some (cs.toList.getD i undef) := by
          have : i < cs.size := by simp only [Array.length_toList] at hlen; omega
          simp [List.getD, this]
        have hlv : l.getD i .dead = v := by simp [List.getD, hl]
        rw [hlv] at hg
        refine quiet (s := Instr.extract (a.eval x) i) (by simp only [execOp, hop]) ⟨rfl, _, ?_, hg⟩
        rw [e]
        simp only [Instr.extract, hcs]
        rfl
      · cases h
    · cases h
  · -- call
    rename_i c hop
    split at h
    · rename_i as has
      have hargs := evL_ok ht has
      split at h
      · -- a builtin
        rename_i b hcal
        have hex : ∀ s : Sem Value, builtin b c.argTypes o.type (c.args.map fun | .const _ => true | _ => false) (c.args.map a.eval) = (do pure (.value (← s))) → execOp a.eval o = (do pure (.value (← s))) := by
          intro s hs
          simp only [execOp, hop, resolve, hcal, pure_bind, invoke]
          exact hs
        unfold opBuiltin at h
        split at h
        · rename_i ty tys x htys
          obtain ⟨v, hvs, hv⟩ := VRs_one.1 hargs
          have ha : c.args.map a.eval = #[v] := by apply Array.ext'; simpa using hvs
          have htl : c.argTypes = (ty :: tys).toArray := by apply Array.ext'; simpa using htys
          refine quiet (hex _ ?_) (opLen_ok h hr hv o.type tys)
          rw [ha, htl]
          rfl
        · rename_i st xt tys s x htys
          obtain ⟨v, r, hvs, hv, hr2⟩ := VRs_cons.1 hargs
          obtain ⟨u, rfl, hu⟩ := VRs_one.1 hr2
          have ha : c.args.map a.eval = #[v, u] := by apply Array.ext'; simpa using hvs
          refine does (hex (Builtin.append_ c.argTypes o.type #[v, u]) ?_) ?_
          · rw [ha]; rfl
          · obtain ⟨v', w', Im', ρ', h1, h2, h3⟩ := opAppend_ok (ty := o.type) h hr hv hu hf
            refine ⟨v', w', Im', ρ', ?_, h2, h3⟩
            have : Builtin.append_ c.argTypes o.type #[v, u] = Builtin.append_ #[st, xt] o.type #[v, u] := by
              have e0 : c.argTypes[0]? = some st := by rw [← Array.getElem?_toList, htys]; rfl
              have e1 : c.argTypes[1]? = some xt := by rw [← Array.getElem?_toList, htys]; rfl
              unfold Builtin.append_
              rw [e0, e1]
              rfl
            rw [this]; exact h1
        · rename_i tys0 v l
          split at h
          · rename_i k n r hmm
            obtain rfl := get_pure h
            obtain ⟨v0, vs, hvs, hv0, hvl⟩ := VRs_cons.1 hargs
            obtain rfl := hv0
            obtain ⟨x, hx, rfl⟩ := minmax_ok (P := cx.P) l k n r vs hmm hvl
            refine quiet (hex (Builtin.min_ c.argTypes o.type (c.args.map a.eval)) rfl) ⟨rfl, .int k x, ?_, rfl⟩
            simp only [Builtin.min_, Array.toList_map, hvs]
            exact hx
          · cases h
        · rename_i tys0 v l
          split at h
          · rename_i k n r hmm
            obtain rfl := get_pure h
            obtain ⟨v0, vs, hvs, hv0, hvl⟩ := VRs_cons.1 hargs
            obtain rfl := hv0
            obtain ⟨x, hx, rfl⟩ := maxmin_ok (P := cx.P) l k n r vs hmm hvl
            refine quiet (hex (Builtin.max_ c.argTypes o.type (c.args.map a.eval)) rfl) ⟨rfl, .int k x, ?_, rfl⟩
            simp only [Builtin.max_, Array.toList_map, hvs]
            exact hx
          · cases h
        · rename_i tys0 x
          obtain ⟨v, hvs, hv⟩ := VRs_one.1 hargs
          have ha : c.args.map a.eval = #[v] := by apply Array.ext'; simpa using hvs
          refine quiet (hex _ ?_) (opSliceData_ok h hr hv c.argTypes o.type)
          rw [ha]
          rfl
        · rename_i pt tys x n htys
          obtain ⟨v, r, hvs, hv, hr2⟩ := VRs_cons.1 hargs
          obtain ⟨u, rfl, hu⟩ := VRs_one.1 hr2
          have ha : c.args.map a.eval = #[v, u] := by apply Array.ext'; simpa using hvs
          have htl : c.argTypes = (pt :: tys).toArray := by apply Array.ext'; simpa using htys
          refine does (hex _ ?_) (opUStr_ok h hr hv hu tys o.type)
          rw [ha, htl]
          rfl
        · cases h
      · -- a function
        rename_i fo hcal
        split at h
        · rename_i f cap hfo
          obtain ⟨caps, e, hcap⟩ := evO_ok ht hfo
          have hall := VRs_append hargs hcap
          cases hsame : isSame cx.P f with
          | true =>
            rw [hsame] at h
            simp only [cond_true] at h
            split at h
            · rename_i x hx
              rw [hx] at hall
              obtain rfl := get_pure h
              obtain ⟨v, hvs, hv⟩ := VRs_one.1 hall
              have ha : c.args.map a.eval ++ caps = #[v] := by apply Array.ext'; simpa using hvs
              refine wp_valueN (v := v) (w' := w) ?_ (hn v w Im ρ (Eff.none hr) hv)
              simp only [execOp, hop, resolve, hcal, e, Deferred.ofValue, pure_bind, invoke, Array.empty_append, ha]
              exact isSame_run hsame v
            · cases h
          | false =>
          rw [hsame] at h
          simp only [cond_false] at h
          obtain ⟨hent, hcall⟩ := opCall_ok hD h hr hall hf
          have ha : (c.args.toList.map a.eval ++ caps.toList).toArray = c.args.map a.eval ++ caps := by apply Array.ext'; simp
          rw [ha] at hcall
          refine wp_enter (f := f) (args := c.args.map a.eval ++ caps) ?_ (hcall.mono ?_)
          · simp only [execOp, hop, resolve, hcal, e, Deferred.ofValue, pure_bind, invoke, Array.empty_append]
            exact hent _ _
          · rintro e' w' ⟨v, Im', ρ', rfl, hE, hv⟩
            exact ⟨v, rfl, hn v w' Im' ρ' hE hv⟩
        · cases h
      · cases h
    · cases h
  · cases h
end Go.Proofs.YtklnpdnfjponpaaDoorV
