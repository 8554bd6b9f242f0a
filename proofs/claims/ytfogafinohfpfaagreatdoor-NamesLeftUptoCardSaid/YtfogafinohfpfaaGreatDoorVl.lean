/- Operations, regions and code: what the interpreter comes to is what the machine comes to. -/
import Derived.Test.YtfogafinohfpfaaGreatDoorVk
import Derived.Test.YtfogafinohfpfaaGreatDoorVjm
namespace Go.Proofs.YtfogafinohfpfaaGreatDoorV
open Go.RowKit
set_option linter.unusedVariables false
set_option linter.unusedSimpArgs false

variable {w : World} {Im : Nat → Prop} {ρ : Nat → Loc} {m : Rows}

/-- As wide as can be; in a round, or not. -/
def FW (rd : Option Nat) : Fence := { Fence.wide with round := rd }

theorem callsIn_FW {rd : Option Nat} {n : Nat} {P : Program} {f : FuncId} {args : Array Value} {w : World} {R : Ending → World → Prop} : CallsIn (FW rd) n P f args w R ↔ Calls P f args w R :=
  callsIn_wide (n := n)

theorem fenced_FW (P : Program) (rd : Option Nat) : Machine.fenced P (FW rd) = Machine.fenced P Fence.wide := rfl

theorem roundIn_FW {rd : Option Nat} {n : Nat} {P : Program} {l : Nat} {f : FuncId} {tmps : Array Value} {assign body : Code} {w : World} {R : Ending → World → Prop} (h : RoundIn Fence.wide n P l f tmps assign body w R) : RoundIn (FW rd) n P l f tmps assign body w R := by
  obtain ⟨h1, h2⟩ := h
  refine ⟨trivial, fun c cs hr => ?_⟩
  rw [fenced_FW]
  exact h2 c cs (room_wide _)

section
variable {P : Program} {o : Oper} {a : Act} {Q : Exit → Act → World → Prop} {next : Act → World → Prop} {rd : Option Nat}
theorem sem_at (hd : ∀ c, o.op ≠ .defer c) : o.semAt (FW rd).round a.eval = execOp a.eval o := Oper.semAt_eq _ _ _ hd
theorem wp_value {s : Sem Value} {v w'} (hd : ∀ c, o.op ≠ .defer c) (ho : execOp a.eval o = do pure (.value (← s))) (hs : s.run P w = .ok v w') (h : next (a.put o.dst v) w') : o.wpIn (FW rd) 0 P a w next Q := by
  refine ⟨fun _ _ => trivial, ?_⟩
  rw [sem_at hd, ho]
  simp only [Sem.run_bind, hs, Result.andThen_ok, Sem.run_pure]
  exact h
theorem wp_val {v} (hd : ∀ c, o.op ≠ .defer c) (ho : execOp a.eval o = pure (.value v)) (h : next (a.put o.dst v) w) : o.wpIn (FW rd) 0 P a w next Q := by
  refine ⟨fun _ _ => trivial, ?_⟩
  rw [sem_at hd, ho]
  exact h
theorem wp_valueN {v w'} (hd : ∀ c, o.op ≠ .defer c) (ho : (execOp a.eval o).run P w = .ok (.value v) w') (h : next (a.put o.dst v) w') : o.wpIn (FW rd) 0 P a w next Q := by
  refine ⟨fun _ _ => trivial, ?_⟩
  rw [sem_at hd, ho]
  exact h
theorem wp_skip' {s : Sem Unit} {w'} (hd : ∀ c, o.op ≠ .defer c) (ho : execOp a.eval o = do s; pure .skip) (hs : s.run P w = .ok () w') (h : next (a.put o.dst undef) w') : o.wpIn (FW rd) 0 P a w next Q := by
  refine ⟨fun _ _ => trivial, ?_⟩
  rw [sem_at hd, ho]
  simp only [Sem.run_bind, hs, Result.andThen_ok, Sem.run_pure]
  exact h
theorem wp_enter {f args} (hd : ∀ c, o.op ≠ .defer c) (ho : (execOp a.eval o).run P w = .ok (.enter f args) w)
    (h : Calls P f args w fun e w' => (∃ v, e = .returned v ∧ next (a.put o.dst v) w') ∨ ∃ v, e = .panicked [{ v, recovered := false }] ∧ Q (.panic [{ v, recovered := false }]) a w') : o.wpIn (FW rd) 0 P a w next Q := by
  refine ⟨fun _ _ => trivial, ?_⟩
  rw [sem_at hd, ho, Oper.uponIn_enter]
  refine ⟨(fun h => by cases h), callsIn_FW.2 (h.mono ?_)⟩
  rintro e w' (⟨v, rfl, hn⟩ | ⟨v, rfl, hn⟩)
  · exact hn
  · exact hn
theorem wp_round {l f tmps assign body} (hd : ∀ c, o.op ≠ .defer c) (ho : (execOp a.eval o).run P w = .ok (.round l f tmps assign body) w)
    (h : RoundIn Fence.wide 0 P l f tmps assign body w fun e w' => ∃ v, e = .returned v ∧ next (a.put o.dst v) w') : o.wpIn (FW rd) 0 P a w next Q := by
  refine ⟨fun _ _ => trivial, ?_⟩
  rw [sem_at hd, ho, Oper.uponIn_round]
  have h2 := RoundIn.mono h (R' := fun | .returned v, w'' => next (a.put o.dst v) w'' | .panicked chain, w'' => Q (.panic chain) a w'' | .outgrown, _ => LetsOut Q) (by rintro e w' ⟨v, rfl, hn⟩; exact hn)
  exact ⟨(fun h => by cases h), roundIn_FW h2⟩
theorem wp_panics {v w'} (hd : ∀ c, o.op ≠ .defer c) (ho : (execOp a.eval o).run P w = .halt (.panic v) w') (h : Q (.panic [{ v, recovered := false }]) a w') : o.wpIn (FW rd) 0 P a w next Q := by
  refine ⟨fun _ _ => trivial, ?_⟩
  rw [sem_at hd, ho]
  exact h
end

theorem evOpt_ok {P : Program} {t : List AV} {a : Act} (ht : VRs w Im ρ t a.tmps.toList) {ty : TypeId} {x : Option Operand} {y : Option AV} (h : evOpt P t ty x = some y) :
    OptVR w Im ρ y (x.map a.eval) := by
  cases x with
  | none => simp only [evOpt, Option.some.injEq] at h; subst h; trivial
  | some v =>
    simp only [evOpt] at h
    split at h
    · rename_i z hz
      simp only [Option.some.injEq] at h; subst h
      exact evO_ok ht hz
    · cases h

theorem Goes.fn {P : Program} {f : FuncId} {vals : List Value} {Q : Ending → World → Prop} (h : Goes P f vals w Q) (hb : fnB f = true) : Calls P f vals.toArray w Q := by
  unfold Goes at h
  rw [hb] at h
  exact h

theorem Goes.round {P : Program} {f : FuncId} {vals : List Value} {Q : Ending → World → Prop} (h : Goes P f vals w Q) (hb : fnB f = false) : ∃ args l fn tmps assign body, vals = args ++ [.func (.yield l) #[] #[]] ∧ (Instr.yield l args.toArray).run P w = .ok (.round l fn tmps assign body) w ∧ RoundIn Fence.wide 0 P l fn tmps assign body w Q := by
  unfold Goes at h
  rw [hb] at h
  exact h

theorem opYield_get {cx : Cx} {nb r avs d} (h : (opYield cx m nb r avs).get = some d) : ∃ f d0, fnB f = false ∧ (opCall cx m nb f (avs ++ [.oref .yield r])).gete = some (false, d0) ∧ d.v = d0.v ∧ d.up = d0.up := by
  unfold opYield at h
  split at h
  · rename_i e sz f st l hl
    cases hb : fnB f with
    | true => rw [hb] at h; cases h
    | false =>
    rw [hb] at h
    simp only [cond_false] at h
    split at h
    · rename_i Y o g gg gh ho
      simp only [OR.get] at h
      cases o with
      | none => cases h
      | some y =>
        simp only [Option.bind_some] at h
        cases hg : g y with
        | none => rw [hg] at h; cases h
        | some x =>
          obtain ⟨p, d0⟩ := x
          rw [hg] at h
          cases p with
          | true => cases h
          | false =>
            simp only [Option.some.injEq] at h
            subst h
            exact ⟨f, d0, hb, by rw [ho]; simp only [OR.gete, Option.bind_some, hg], rfl, rfl⟩
    · cases h
  · cases h

theorem opYield_getp {cx : Cx} {nb r avs d} (h : (opYield cx m nb r avs).getp = some d) : False := by
  unfold opYield at h
  split at h
  · rename_i e sz f st l hl
    cases hb : fnB f with
    | true => rw [hb] at h; cases h
    | false =>
    rw [hb] at h
    simp only [cond_false] at h
    split at h
    · rename_i Y o g gg gh ho
      simp only [OR.getp] at h
      cases o with
      | none => cases h
      | some y =>
        simp only [Option.bind_some] at h
        cases hg : g y with
        | none => rw [hg] at h; cases h
        | some x =>
          obtain ⟨p, d0⟩ := x
          rw [hg] at h
          cases p <;> cases h
    · cases h
  · cases h

theorem adel_defer {cx : Cx} {o : Oper} {nb : Nat} {t : List AV} {d : Dl} {c : Call} (hc : o.op = .defer c) (h : (adel cx o nb t m).get = some d) : False := by
  have e : adel cx o nb t m = .fail := by simp only [adel, hc]
  rw [e] at h
  cases h

set_option maxHeartbeats 2000000 in
theorem op_sound {cx : Cx} (hD : DOK cx) {rd : Option Nat} {o : Oper} {nb : Nat} {t : List AV} {d : Dl} (h : (adel cx o nb t m).get = some d) (hr : RS w Im ρ m) {a : Act} (ht : VRs w Im ρ t a.tmps.toList)
    (hf : ∀ q, nb ≤ q → q < nb + 64 → ρ q = .unborn) {Q : Exit → Act → World → Prop} {next : Act → World → Prop}
    (hn : ∀ v w' Im' ρ', Eff nb Im ρ w Im' ρ' (upR m d.up) w' → VR w' Im' ρ' d.v v → next (a.put o.dst v) w') : o.wpIn (FW rd) 0 cx.P a w next Q := by
  have hnd : ∀ c, o.op ≠ .defer c := fun c hc => adel_defer hc h
  have quiet : ∀ {s : Sem Value}, execOp a.eval o = (do pure (.value (← s))) → Quiet w Im ρ cx.P d s → o.wpIn (FW rd) 0 cx.P a w next Q := by
    intro s ho hq
    obtain ⟨v, w', Im', ρ', h1, h2, h3⟩ := Quiet.does (nb := nb) hq hr
    exact wp_value hnd ho h1 (hn v w' Im' ρ' h2 h3)
  have does : ∀ {s : Sem Value}, execOp a.eval o = (do pure (.value (← s))) → Does nb Im ρ m w cx.P d s → o.wpIn (FW rd) 0 cx.P a w next Q := by
    intro s ho hq
    obtain ⟨v, w', Im', ρ', h1, h2, h3⟩ := hq
    exact wp_value hnd ho h1 (hn v w' Im' ρ' h2 h3)
  have plain : ∀ {v : Value}, execOp a.eval o = pure (.value v) → d.up = [] → VR w Im ρ d.v v → o.wpIn (FW rd) 0 cx.P a w next Q := by
    intro v ho hu hv
    exact wp_val hnd ho (hn v w Im ρ (by rw [hu]; exact Eff.none hr) hv)
  unfold adel at h
  simp only at h
  split at h
  · -- move
    rename_i x hop
    split at h
    · rename_i v hx
      obtain rfl := get_pure h
      exact plain (by simp only [execOp, hop]) rfl (evO_ok ht hx)
    · cases h
  · -- assign
    rename_i x hop
    split at h
    · rename_i v hx
      split at h
      · rename_i v' m' hm
        obtain ⟨_, rfl⟩ := get_val h
        obtain ⟨ρ', hE, hv'⟩ := matV_ok hm hr (evO_ok ht hx) hf
        exact wp_val hnd (by simp only [execOp, hop]) (hn _ w Im ρ' hE hv')
      · cases h
    · cases h
  · -- pick
    rename_i c x y hop
    split at h
    · rename_i b u v hc hx hy
      obtain rfl := get_pure h
      have hcb := evO_ok ht hc
      simp only [VR] at hcb
      refine wp_value hnd (s := (pure (if b = true then a.eval x else a.eval y) : Sem Value)) ?_ (Sem.run_pure _ _ _) (hn _ w Im ρ (Eff.none hr) (pick2_ok (evO_ok ht hx) (evO_ok ht hy)))
      simp only [execOp, hop, hcb, asBool, pure_bind]
    · cases h
  · -- alloc
    rename_i e hop
    split at h
    · rename_i z hz
      cases hsp : selfPtr cx.P e with
      | true => rw [hsp] at h; exact does (by simp only [execOp, hop]) (boxSelf_ok hz h hr hf)
      | false => rw [hsp] at h; exact does (by simp only [execOp, hop]) (opAlloc_ok hz h hr hf)
    · cases h
  · -- box
    rename_i e x hop
    split at h
    · rename_i v hx
      exact does (by simp only [execOp, hop]) (opBox_ok h hr (evO_ok ht hx) hf)
    · cases h
  · -- build
    rename_i ty parts hop
    refine quiet (s := Instr.build ty (parts.toList.map fun p => (p.1, a.eval p.2)).toArray) ?_ (opBuild_ok h hr ht)
    have hp : (parts.toList.map fun p => (p.1, a.eval p.2)).toArray = parts.map fun x => (x.1, a.eval x.2) := by apply Array.ext'; simp
    rw [hp]
    simp only [execOp, hop]
  · -- buildSlice
    rename_i ty len parts hop
    have hq := opBuildSlice_ok (P := cx.P) (tm := t) (a := a) h hr ht hf
    refine does ?_ hq
    have hp : (parts.toList.map fun p => (p.1, a.eval p.2)).toArray = parts.map fun x => (x.1, a.eval x.2) := by apply Array.ext'; simp
    rw [hp]
    simp only [execOp, hop]
  · -- load
    rename_i ty x hop
    split at h
    · rename_i v hx
      exact quiet (by simp only [execOp, hop]) (opLoad_ok h hr (evO_ok ht hx))
    · cases h
  · -- store
    rename_i ty x y hop
    split at h
    · rename_i u v hx hy
      obtain ⟨hdv, w', ρ', h1, h2⟩ := opStore_ok h hr (evO_ok ht hx) (evO_ok ht hy) hf
      exact wp_skip' hnd (by simp only [execOp, hop]) h1 (hn undef w' Im ρ' h2 (by rw [hdv]; simp only [VR]))
    · cases h
  · -- nilCheck
    rename_i x hop
    split at h
    · rename_i v hx
      obtain ⟨hu, hv, ad, e⟩ := opNilCheck_ok h hr (evO_ok ht hx)
      refine plain (v := a.eval x) ?_ hu hv
      simp only [execOp, hop, e]
    · cases h
  · -- binOp
    rename_i op xt x y yt hop
    split at h
    · rename_i hx hy
      cases hc : isNilC x || isNilC y with
      | false => rw [hc] at h; cases h
      | true =>
        rw [hc] at h
        have hxa := evO_ok (Im := Im) (ρ := ρ) ht hx
        have hya := evO_ok (Im := Im) (ρ := ρ) ht hy
        simp only [VR] at hxa hya
        refine quiet (s := (do eqGuard op xt x y (a.eval x) (a.eval y); binOp op xt (a.eval x) (a.eval y))) (by simp only [execOp, hop]) ?_
        rw [hxa, hya]
        exact opNilEq_ok hc h
    · rename_i u v hne hx hy
      exact quiet (s := (do eqGuard op xt x y (a.eval x) (a.eval y); binOp op xt (a.eval x) (a.eval y))) (by simp only [execOp, hop]) (bin2_ok h hr (evO_ok ht hx) (evO_ok ht hy) x y)
    · cases h
  · -- makeInterface
    rename_i xt x hop
    split at h
    · rename_i u hx
      exact quiet (by simp only [execOp, hop]) (opIface_ok h (evO_ok ht hx))
    · cases h
  · -- typeAssert
    rename_i x xt ty ok hop
    split at h
    · rename_i u hx
      exact quiet (by simp only [execOp, hop]) (opAssert_ok (xt := xt) h (evO_ok ht hx))
    · cases h
  · -- panic
    split at h <;> cases h
  · -- unOp
    rename_i op xt x hop
    split at h
    · rename_i u hx
      exact quiet (by simp only [execOp, hop]) (un_ok h (evO_ok ht hx))
    · cases h
  · -- convert
    rename_i s ty x hop
    split at h
    · rename_i u hx
      exact does (by simp only [execOp, hop]) (conv2_ok h hr (evO_ok ht hx) hf)
    · cases h
  · -- makeFunc
    rename_i f first cap hop
    split at h
    · rename_i l hfirst hl
      cases hmf : mB f with
      | false => rw [hmf] at h; cases h
      | true =>
      rw [hmf] at h
      simp only [cond_true] at h
      obtain rfl := get_pure h
      have hf0 : first.map a.eval = #[] := by
        have := evL_ok ht hfirst
        simp only [VRs] at this
        apply Array.ext'
        simpa using this
      refine wp_value hnd (s := Instr.makeFunc (.func f) (first.map a.eval) (cap.map a.eval)) (by simp only [execOp, hop]) rfl (hn _ w Im ρ (Eff.none hr) ?_)
      refine ⟨cap.map a.eval, by rw [hf0, fval_fn hmf], ?_⟩
      have := evL_ok ht hl
      simpa using this
    · rename_i x hfirst hl
      cases hmf : mB f with
      | false => rw [hmf] at h; cases h
      | true =>
      rw [hmf] at h
      simp only [cond_true] at h
      obtain rfl := get_pure h
      have hc0 : cap.map a.eval = #[] := by
        have := evL_ok ht hl
        simp only [VRs] at this
        apply Array.ext'
        simpa using this
      refine wp_value hnd (s := Instr.makeFunc (.func f) (first.map a.eval) (cap.map a.eval)) (by simp only [execOp, hop]) rfl (hn _ w Im ρ (Eff.none hr) ?_)
      refine ⟨first.map a.eval, by rw [hc0, fval_m (mB_mEnc f), mDec_mEnc hmf], ?_⟩
      have := evL_ok ht hfirst
      simpa using this
    · cases h
  · -- makeMap
    rename_i ty hint hop
    have hint_ok : ∀ {y}, evOpt cx.P t o.type hint = some y → (∀ u, y = some u → ∃ k n, u = .int k n) → ∀ v, hint.map a.eval = some v → ∃ k n, v = .int k n := by
      intro y hy hk v hv
      cases hint with
      | none => cases hv
      | some x =>
        simp only [evOpt] at hy
        split at hy
        · rename_i u hu
          cases hy
          obtain ⟨k, n, rfl⟩ := hk _ rfl
          have := evO_ok (Im := Im) (ρ := ρ) (w := w) ht hu
          simp only [VR] at this
          cases hv
          exact ⟨k, n, this⟩
        · cases hy
    split at h
    · rename_i hy
      exact does (by simp only [execOp, hop]) (opMakeMap_ok h hr hf (hint_ok hy (by simp)))
    · rename_i k n hy
      exact does (by simp only [execOp, hop]) (opMakeMap_ok h hr hf (hint_ok hy (by simp)))
    · cases h
  · -- lookup
    rename_i ty x i ok hop
    split at h
    · rename_i u v hx hi
      exact quiet (by simp only [execOp, hop]) (opLookup_ok h hr (evO_ok ht hx) (evO_ok ht hi))
    · cases h
  · -- mapUpdate
    rename_i ty x i y hop
    split at h
    · rename_i u v q hx hi hy
      obtain ⟨hdv, w', h1, h2⟩ := opMapUpd_ok (nb := nb) h hr (evO_ok ht hx) (evO_ok ht hi) (evO_ok ht hy)
      exact wp_skip' hnd (by simp only [execOp, hop]) h1 (hn undef w' Im ρ h2 (by rw [hdv]; simp only [VR]))
    · cases h
  · -- insert
    rename_i ty x i y hop
    split at h
    · rename_i u v q hx hi hy
      obtain ⟨hdv, w', h1, h2⟩ := opMapUpd_ok (nb := nb) h hr (evO_ok ht hx) (evO_ok ht hi) (evO_ok ht hy)
      exact wp_skip' hnd (by simp only [execOp, hop]) h1 (hn undef w' Im ρ h2 (by rw [hdv]; simp only [VR]))
    · cases h
  · -- makeSlice
    rename_i ty l c hop
    split at h
    · rename_i u v hx hy
      exact does (by simp only [execOp, hop]) (opMake_ok h hr (evO_ok ht hx) (evO_ok ht hy) hf)
    · cases h
  · -- slice
    rename_i ty x lo hi mx hop
    split at h
    · rename_i u lo' hi' mx' hx hlo hhi hmx
      refine quiet (s := Instr.sliceAt ty (a.eval x) (lo.map a.eval) (hi.map a.eval) (mx.map a.eval)) (by simp only [execOp, hop]) (opSliceX_ok h hr (evO_ok ht hx) ?_ ?_ ?_)
      · exact evOpt_ok ht hlo
      · exact evOpt_ok ht hhi
      · exact evOpt_ok ht hmx
    · cases h
  · -- fieldAddr
    rename_i ty x f hop
    split at h
    · rename_i u hx
      exact quiet (by simp only [execOp, hop]) (opFieldAddr_ok h hr (evO_ok ht hx))
    · cases h
  · -- field
    rename_i ty x f hop
    split at h
    · rename_i u hx
      exact quiet (by simp only [execOp, hop]) (opField_ok h (evO_ok ht hx))
    · cases h
  · -- indexAddr
    rename_i ty x i hop
    exact quiet (by simp only [execOp, hop]) (opIA_ok h hr (fun u hu => evO_ok ht hu) (fun g hg => by subst hg; rfl) (fun u hu => evO_ok ht hu))
  · -- index
    rename_i ty x i hop
    split at h
    · rename_i u v hx hi
      exact quiet (by simp only [execOp, hop]) (opIndex_ok h (evO_ok ht hx) (evO_ok ht hi))
    · cases h
  · -- extract
    rename_i x i hop
    split at h
    · rename_i l hx
      split at h
      · rename_i v hl
        obtain rfl := get_pure h
        obtain ⟨cs, e, hv⟩ := evO_ok ht hx
        have hg := VRs_get hv i
        have hi : i < l.length := (List.getElem?_eq_some_iff.1 hl).1
        have hlen := VRs_len hv
        have hcs : cs[i]? = some (cs.toList.getD i undef) := by
          have : i < cs.size := by simp only [Array.length_toList] at hlen; omega
          simp [List.getD, this]
        have hlv : l.getD i .dead = v := by simp [List.getD, hl]
        rw [hlv] at hg
        refine quiet (s := Instr.extract (a.eval x) i) (by simp only [execOp, hop]) ⟨rfl, _, ?_, hg⟩
        rw [e]
        simp only [Instr.extract, hcs]
        rfl
      · cases h
    · cases h
  · -- call
    rename_i c hop
    split at h
    · rename_i avs has
      have hargs := evL_ok ht has
      split at h
      · -- a builtin
        rename_i b hcal
        have hex : ∀ s : Sem Value, builtin b c.argTypes o.type (c.args.map fun | .const _ => true | _ => false) (c.args.map a.eval) = (do pure (.value (← s))) → execOp a.eval o = (do pure (.value (← s))) := by
          intro s hs
          simp only [execOp, hop, resolve, hcal, pure_bind, invoke]
          exact hs
        unfold opBuiltin at h
        split at h
        · rename_i ty tys x htys
          obtain ⟨v, hvs, hv⟩ := VRs_one.1 hargs
          have ha : c.args.map a.eval = #[v] := by apply Array.ext'; simpa using hvs
          have htl : c.argTypes = (ty :: tys).toArray := by apply Array.ext'; simpa using htys
          refine quiet (hex _ ?_) (opLen_ok h hr hv o.type tys)
          rw [ha, htl]
          rfl
        · rename_i st xt tys s x htys
          obtain ⟨v, r, hvs, hv, hr2⟩ := VRs_cons.1 hargs
          obtain ⟨u, rfl, hu⟩ := VRs_one.1 hr2
          have ha : c.args.map a.eval = #[v, u] := by apply Array.ext'; simpa using hvs
          refine does (hex (Builtin.append_ c.argTypes o.type #[v, u]) ?_) ?_
          · rw [ha]; rfl
          · obtain ⟨v', w', Im', ρ', h1, h2, h3⟩ := opApp_ok (ty := o.type) h hr hv hu hf
            refine ⟨v', w', Im', ρ', ?_, h2, h3⟩
            have : Builtin.append_ c.argTypes o.type #[v, u] = Builtin.append_ #[st, xt] o.type #[v, u] := by
              have e0 : c.argTypes[0]? = some st := by rw [← Array.getElem?_toList, htys]; rfl
              have e1 : c.argTypes[1]? = some xt := by rw [← Array.getElem?_toList, htys]; rfl
              unfold Builtin.append_
              rw [e0, e1]
              rfl
            rw [this]; exact h1
        · rename_i tys0 v l
          split at h
          · rename_i k n r hmm
            obtain rfl := get_pure h
            obtain ⟨v0, vs, hvs, hv0, hvl⟩ := VRs_cons.1 hargs
            obtain rfl := hv0
            obtain ⟨x, hx, rfl⟩ := minmax_ok (P := cx.P) l k n r vs hmm hvl
            refine quiet (hex (Builtin.min_ c.argTypes o.type (c.args.map a.eval)) rfl) ⟨rfl, .int k x, ?_, rfl⟩
            simp only [Builtin.min_, Array.toList_map, hvs]
            exact hx
          · cases h
        · rename_i tys0 v l
          split at h
          · rename_i k n r hmm
            obtain rfl := get_pure h
            obtain ⟨v0, vs, hvs, hv0, hvl⟩ := VRs_cons.1 hargs
            obtain rfl := hv0
            obtain ⟨x, hx, rfl⟩ := maxmin_ok (P := cx.P) l k n r vs hmm hvl
            refine quiet (hex (Builtin.max_ c.argTypes o.type (c.args.map a.eval)) rfl) ⟨rfl, .int k x, ?_, rfl⟩
            simp only [Builtin.max_, Array.toList_map, hvs]
            exact hx
          · cases h
        · rename_i tys0 x
          obtain ⟨v, hvs, hv⟩ := VRs_one.1 hargs
          have ha : c.args.map a.eval = #[v] := by apply Array.ext'; simpa using hvs
          refine does (hex _ ?_) (opSliceData_ok h hr hv c.argTypes)
          rw [ha]
          rfl
        · rename_i pt tys x n htys
          obtain ⟨v, r, hvs, hv, hr2⟩ := VRs_cons.1 hargs
          obtain ⟨u, rfl, hu⟩ := VRs_one.1 hr2
          have ha : c.args.map a.eval = #[v, u] := by apply Array.ext'; simpa using hvs
          have htl : c.argTypes = (pt :: tys).toArray := by apply Array.ext'; simpa using htys
          refine does (hex _ ?_) (opUStr_ok h hr hv hu tys o.type)
          rw [ha, htl]
          rfl
        · rename_i mt tys x i htys
          obtain ⟨v, r, hvs, hv, hr2⟩ := VRs_cons.1 hargs
          obtain ⟨u, rfl, hu⟩ := VRs_one.1 hr2
          have ha : c.args.map a.eval = #[v, u] := by apply Array.ext'; simpa using hvs
          refine does (hex (Builtin.delete_ c.argTypes o.type #[v, u]) ?_) (opDelete_ok h hr hv hu c.argTypes (by rw [← Array.getElem?_toList, htys]; rfl) o.type)
          rw [ha]
          rfl
        · rename_i ct tys x htys
          obtain ⟨v, hvs, hv⟩ := VRs_one.1 hargs
          have ha : c.args.map a.eval = #[v] := by apply Array.ext'; simpa using hvs
          refine does (hex (Builtin.clear_ c.argTypes o.type #[v]) ?_) (opClear_ok h hr hv c.argTypes (by rw [← Array.getElem?_toList, htys]; rfl) o.type)
          rw [ha]
          rfl
        · cases h
      · -- a function
        rename_i fo hcal
        split at h
        · rename_i f cap hfo
          obtain ⟨caps, e, hcap⟩ := evO_ok ht hfo
          cases hmb : mB f with
          | false =>
            rw [hmb] at h
            simp only [cond_false] at h
            rw [fval_m hmb] at e
            have hall := VRs_append hcap hargs
            cases hlt : fnB (mDec f) with
            | false => rw [hlt] at h; cases h
            | true =>
            rw [hlt] at h
            simp only [cond_true] at h
            obtain ⟨hent, hcall⟩ := opCall_ok hD (OR.gete_get h) hr hall hf
            replace hcall := hcall.fn hlt
            have ha : (caps.toList ++ c.args.toList.map a.eval).toArray = caps ++ c.args.map a.eval := by apply Array.ext'; simp
            rw [ha] at hcall
            refine wp_enter hnd (f := mDec f) (args := caps ++ c.args.map a.eval) ?_ (hcall.mono ?_)
            · simp only [execOp, hop, resolve, hcal, e, Deferred.ofValue, pure_bind, invoke, Array.append_empty]
              exact hent hlt _ _
            · rintro e' w' ⟨v, Im', ρ', rfl, hE, hv⟩
              exact .inl ⟨v, rfl, hn v w' Im' ρ' hE hv⟩
          | true =>
          rw [hmb] at h
          simp only [cond_true] at h
          rw [fval_fn hmb] at e
          have hall := VRs_append hargs hcap
          cases hsame : isSame cx.P f with
          | true =>
            rw [hsame] at h
            simp only [cond_true] at h
            split at h
            · rename_i x hx
              rw [hx] at hall
              obtain rfl := get_pure h
              obtain ⟨v, hvs, hv⟩ := VRs_one.1 hall
              have ha : c.args.map a.eval ++ caps = #[v] := by apply Array.ext'; simpa using hvs
              refine wp_valueN hnd (v := v) (w' := w) ?_ (hn v w Im ρ (Eff.none hr) hv)
              simp only [execOp, hop, resolve, hcal, e, Deferred.ofValue, pure_bind, invoke, Array.empty_append, ha]
              exact isSame_run hsame v
            · cases h
          | false =>
          rw [hsame] at h
          simp only [cond_false] at h
          cases hmc : isMClone cx.P f with
          | true =>
            rw [hmc] at h
            simp only [cond_true] at h
            obtain ⟨v, w', Im', ρ', h1, h2, h3⟩ := opMClone_ok (P := cx.P) h hr hall hf
            have ha : (c.args.toList.map a.eval ++ caps.toList).toArray = c.args.map a.eval ++ caps := by apply Array.ext'; simp
            have ha' : (List.map a.eval c.args.toList ++ caps.toList).toArray = c.args.map a.eval ++ caps := ha
            rw [ha'] at h1
            refine wp_valueN hnd (v := v) (w' := w') ?_ (hn v w' Im' ρ' h2 h3)
            simp only [execOp, hop, resolve, hcal, e, Deferred.ofValue, pure_bind, invoke, Array.empty_append]
            rw [isMClone_run hmc]
            simp only [Sem.run_bind, h1, Result.andThen_ok, Sem.run_pure]
          | false =>
          rw [hmc] at h
          simp only [cond_false] at h
          cases hlt : fnB f with
          | false => rw [hlt] at h; cases h
          | true =>
          rw [hlt] at h
          simp only [cond_true] at h
          obtain ⟨hent, hcall⟩ := opCall_ok hD (OR.gete_get h) hr hall hf
          replace hcall := hcall.fn hlt
          have ha : (c.args.toList.map a.eval ++ caps.toList).toArray = c.args.map a.eval ++ caps := by apply Array.ext'; simp
          rw [ha] at hcall
          refine wp_enter hnd (f := f) (args := c.args.map a.eval ++ caps) ?_ (hcall.mono ?_)
          · simp only [execOp, hop, resolve, hcal, e, Deferred.ofValue, pure_bind, invoke, Array.empty_append]
            exact hent hlt _ _
          · rintro e' w' ⟨v, Im', ρ', rfl, hE, hv⟩
            exact .inl ⟨v, rfl, hn v w' Im' ρ' hE hv⟩
        · -- a round
          rename_i r hfo
          have hy := evO_ok ht hfo
          obtain ⟨f, d0, hfb, hd0, hdv, hdu⟩ := opYield_get h
          have hall := VRs_append hargs (VRs_one.2 ⟨_, rfl, hy⟩)
          obtain ⟨-, hcall⟩ := opCall_ok hD hd0 hr hall hf
          obtain ⟨args, l, fn, tmps, assign, body, h1, h2, h3⟩ := hcall.round hfb
          obtain ⟨h4, h5⟩ := List.append_inj' h1 rfl
          simp only [List.cons.injEq, and_true] at h5
          have ha : args.toArray = c.args.map a.eval := by rw [← h4]; apply Array.ext'; simp
          rw [ha] at h2
          refine wp_round hnd (l := l) (f := fn) (tmps := tmps) (assign := assign) (body := body) ?_ (h3.mono ?_)
          · simp only [execOp, hop, resolve, hcal, h5, Deferred.ofValue, pure_bind, invoke, Array.empty_append]
            exact h2
          · rintro e' w' ⟨v, Im', ρ', rfl, hE, hv⟩
            rw [← hdu] at hE
            rw [← hdv] at hv
            exact ⟨v, rfl, hn v w' Im' ρ' hE hv⟩
        · cases h
      · cases h
    · cases h
  · cases h

/-- An operation that panics. -/
theorem op_panics {cx : Cx} (hD : DOK cx) {rd : Option Nat} {o : Oper} {nb : Nat} {t : List AV} {d : Dl} (h : (adel cx o nb t m).getp = some d) (hm : mayP o.op = true) (hr : RS w Im ρ m) {a : Act} (ht : VRs w Im ρ t a.tmps.toList)
    (hf : ∀ q, nb ≤ q → q < nb + 64 → ρ q = .unborn) {Q : Exit → Act → World → Prop} {next : Act → World → Prop}
    (hn : ∀ v w' Im' ρ', Eff nb Im ρ w Im' ρ' (upR m d.up) w' → VR w' Im' ρ' d.v v → Q (.panic [{ v, recovered := false }]) a w') : o.wpIn (FW rd) 0 cx.P a w next Q := by
  unfold mayP at hm
  split at hm
  · rename_i x hop
    simp only [adel, hop] at h
    split at h
    · rename_i ty v hx
      cases h
      have hv := evO_ok ht hx
      obtain ⟨u, hu, hvu⟩ := id hv
      refine wp_panics (v := a.eval x) (w' := w) (by intro c hc; rw [hop] at hc; cases hc) ?_ (hn _ w Im ρ (Eff.none hr) hv)
      simp only [execOp, hop, hu]
      rfl
    · cases h
  · rename_i c hop
    have hnd : ∀ c, o.op ≠ .defer c := by intro c' hc; rw [hop] at hc; cases hc
    split at hm
    · rename_i fo hcal
      simp only [adel, hop] at h
      split at h
      · rename_i avs has
        have hargs := evL_ok ht has
        rw [hcal] at h
        simp only at h
        split at h
        · rename_i f cap hfo
          obtain ⟨caps, e, hcap⟩ := evO_ok ht hfo
          cases hmb : mB f with
          | false =>
            rw [hmb] at h
            simp only [cond_false] at h
            rw [fval_m hmb] at e
            have hall := VRs_append hcap hargs
            cases hlt : fnB (mDec f) with
            | false => rw [hlt] at h; cases h
            | true =>
            rw [hlt] at h
            simp only [cond_true] at h
            obtain ⟨hent, hcall⟩ := opCall_ok hD (OR.gete_getp h) hr hall hf
            replace hcall := hcall.fn hlt
            have ha : (caps.toList ++ c.args.toList.map a.eval).toArray = caps ++ c.args.map a.eval := by apply Array.ext'; simp
            rw [ha] at hcall
            refine wp_enter hnd (f := mDec f) (args := caps ++ c.args.map a.eval) ?_ (hcall.mono ?_)
            · simp only [execOp, hop, resolve, hcal, e, Deferred.ofValue, pure_bind, invoke, Array.append_empty]
              exact hent hlt _ _
            · rintro e' w' ⟨v, Im', ρ', rfl, hE, hv⟩
              exact .inr ⟨v, rfl, hn v w' Im' ρ' hE hv⟩
          | true =>
          rw [hmb] at h
          simp only [cond_true] at h
          rw [fval_fn hmb] at e
          have hall := VRs_append hargs hcap
          cases hsame : isSame cx.P f with
          | true =>
            rw [hsame] at h
            simp only [cond_true] at h
            split at h <;> cases h
          | false =>
          rw [hsame] at h
          simp only [cond_false] at h
          cases hmc : isMClone cx.P f with
          | true =>
            rw [hmc] at h
            simp only [cond_true] at h
            unfold opMClone at h
            split at h
            · split at h <;> cases h
            · cases h
          | false =>
          rw [hmc] at h
          simp only [cond_false] at h
          cases hlt : fnB f with
          | false => rw [hlt] at h; cases h
          | true =>
          rw [hlt] at h
          simp only [cond_true] at h
          obtain ⟨hent, hcall⟩ := opCall_ok hD (OR.gete_getp h) hr hall hf
          replace hcall := hcall.fn hlt
          have ha : (c.args.toList.map a.eval ++ caps.toList).toArray = c.args.map a.eval ++ caps := by apply Array.ext'; simp
          rw [ha] at hcall
          refine wp_enter hnd (f := f) (args := c.args.map a.eval ++ caps) ?_ (hcall.mono ?_)
          · simp only [execOp, hop, resolve, hcal, e, Deferred.ofValue, pure_bind, invoke, Array.empty_append]
            exact hent hlt _ _
          · rintro e' w' ⟨v, Im', ρ', rfl, hE, hv⟩
            exact .inr ⟨v, rfl, hn v w' Im' ρ' hE hv⟩
        · exact (opYield_getp h).elim
        · cases h
      · cases h
    · cases hm
  · cases hm
end Go.Proofs.YtfogafinohfpfaaGreatDoorV
