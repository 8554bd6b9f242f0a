/- Tables among the variables, out of a row's condition; the wrap of a row whose condition and whose world's shape are both asked. -/
import Derived.Test.YtfogafinohfpfaaGreatDoorWa
import Derived.HandedShaped
import Derived.LaidLaws
import Derived.ChangeArms
namespace Go.Proofs.YtfogafinohfpfaaGreatDoorV
open Go.RowKit
set_option linter.unusedVariables false

theorem returns_both {H : Type} {enc : TypeId × Value → H} {a : Assume} {C : Checked} {os : Os} {f : FuncId} {fn : Func} {s : ChangeSpec} {conds : List PathCond} {apart fresh handsOn again : Bool} {X : World → Array Value → Prop}
    (hX : ∀ (w w' : World) (args : Array Value), w.heap = w'.heap → X w args → X w' args)
    (own : ownKnob C.prog.godebug = none) (started : os.Started) (noInit : C.prog.inits.idxOf? f = none) (hfn : C.prog.funcs[f]? = some fn)
    (witness : ∃ (w : World) (tape : Tape) (i : Input), w.os = os ∧ (w.forCall tape i).Shaped C.prog ∧ i.vars = [] ∧ Input.okWide C.prog (w.forCall tape i) .any w.heap.size f i ∧
      ((s.pre enc C.prog fn conds apart (w.forCall tape i).memory i.args ∧ X (w.forCall tape i).memory i.args) ∧ sizedMet enc C.prog fn (OpenSpec.ofChange s) apart (w.forCall tape i).memory i.args) ∧ a.holds C.prog (lone (Frame.enter C.prog f i.args .normal) [] (w.forCall tape i)))
    (contract : ∀ (W : World) (base : Nat) (args : Array Value) (ds gs : List (DataW H)) (before : List MemPlace),
      (∀ (j : Nat) t v, fn.params[j]? = some t → args[j]? = some v → Value.okWide C.prog W .any base t v) →
      DataW.Whole enc C.prog fn.params.toList s.vars apart W args.toList ds gs before →
      conds.all (PathCond.test C.prog ⟨fn.params.toList, ds, s.plain.varTypes C.prog, gs⟩) = true →
      (DataW.weightsEach C.prog (fn.params.toList ++ s.plain.varTypes C.prog) (ds ++ gs)).all (· ≤ reachBytes) = true → X W args → W.ShapedOpen C.prog →
      a.holds C.prog (lone (Frame.enter C.prog f args .normal) [] W) →
      Calls C.prog f args W fun e W' => ∃ v, e = .returned v ∧ s.post enc C.prog fn apart fresh handsOn again W args v W') :
    ReturnsInHanded a C os f .any (fun w args => (s.pre enc C.prog fn conds apart w args ∧ X w args) ∧ sizedMet enc C.prog fn (OpenSpec.ofChange s) apart w args) (s.post enc C.prog fn apart fresh handsOn again) := by
  refine returnsInHanded_of_calls own started noInit witness ?_
  intro w tape i _ hsh _ hok hpre hholds
  obtain ⟨_, _, _, fn', hfn', _, _, _, _, hval⟩ := hok
  have e : fn' = fn := Option.some.inj (hfn'.symm.trans hfn)
  subst e
  obtain ⟨⟨⟨ds, gs, before, hw, hc⟩, hx⟩, hz⟩ := hpre
  have hw' := DataW.Whole.of_heap (w' := w.forCall tape i) (by rfl) hw
  refine (contract (w.forCall tape i) w.heap.size i.args ds gs before hval hw' hc (hz.weights hw) (hX _ _ _ (by rfl) hx) hsh hholds).mono fun e W' ⟨v, he, hp⟩ => ?_
  subst he
  exact ChangeSpec.post_blind hp

/-- What arrays of texts and numbers hold, cell for cell. -/
def flatD {H : Type} : Nat → DataW H → Option (List Value)
  | 0, _ => none
  | n + 1, d => match d with
    | .lit (.string l) => some [.string ⟨l.toArray⟩]
    | .lit (.int k z) => some [.int k z]
    | .agg ds => (ds.mapM (flatD n)).map List.flatten
    | _ => none

def arrOK (P : Program) : Nat → TypeId → Bool
  | 0, _ => false
  | n + 1, t => match P.underlying t with
    | some .string => true
    | some (.int _) => true
    | some (.array k e) => arrOK P n e && Nat.beq (P.cellsOf t) (k * P.cellsOf e)
    | _ => false

theorem chunks {α : Type} {f : Nat → Option α} {g : α → Option (List Value)} {cs : List Value} {sz : Nat} (hf : ∀ i x, f i = some x → g x = some ((cs.drop (i * sz)).take sz)) :
    ∀ (n a : Nat) (xs : List α), (List.range' a n).mapM f = some xs → ∃ ch, xs.mapM g = some ch ∧ ch.flatten = (cs.drop (a * sz)).take (n * sz)
  | 0, a, xs, h => by
    simp at h
    subst h
    exact ⟨[], rfl, by simp⟩
  | n + 1, a, xs, h => by
    rw [List.range'_succ, List.mapM_cons] at h
    simp only [Option.bind_eq_bind, Option.bind_eq_some_iff, Option.pure_def, Option.some.injEq] at h
    obtain ⟨x, hx, xs', hxs, rfl⟩ := h
    obtain ⟨ch, h1, h2⟩ := chunks hf n (a + 1) xs' hxs
    refine ⟨(cs.drop (a * sz)).take sz :: ch, ?_, ?_⟩
    · rw [List.mapM_cons, hf a x hx, h1]; rfl
    · rw [List.flatten_cons, h2, Nat.add_mul n 1 sz, Nat.one_mul, Nat.add_comm (n * sz) sz, List.take_add, List.drop_drop, Nat.add_mul, Nat.one_mul]

theorem trod_flat {H : Type} {enc : TypeId × Value → H} {P : Program} {w : World} {base : Nat} {sp : Nat → Bool} {held : Bool} : ∀ (n fuel : Nat) (t : TypeId) (cs : List Value) (d : DataW H) (p : List MemPlace),
    arrOK P n t = true → DataW.trod enc P w base sp held fuel t cs = some (d, p) → flatD n d = some cs
  | 0, fuel, t, cs, d, p, ha, _ => by cases ha
  | n + 1, 0, t, cs, d, p, _, h => by simp [DataW.trod] at h
  | n + 1, fuel + 1, t, cs, d, p, ha, h => by
    unfold arrOK at ha
    split at ha
    · rename_i hu
      unfold DataW.trod at h
      rw [hu] at h
      split at h <;> try contradiction
      all_goals simp_all
      obtain ⟨_, rfl, rfl⟩ := h
      rfl
    · rename_i k hu
      obtain ⟨z, rfl, hx, _⟩ := DataW.trod_int hu h
      cases hx
      rfl
    · rename_i k e hu
      simp only [Bool.and_eq_true, Nat.beq_eq] at ha
      obtain ⟨hae, hct⟩ := ha
      simp only [DataW.trod, hu] at h
      split at h
      · rename_i hl
        obtain ⟨xs, hm, hx⟩ := Option.map_eq_some_iff.1 h
        cases hx
        rw [List.range_eq_range'] at hm
        obtain ⟨ch, h1, h2⟩ := chunks (g := fun x => flatD n x.1) (cs := cs) (sz := P.cellsOf e) (fun i x hi => trod_flat n fuel e _ x.1 x.2 hae hi) k 0 xs hm
        have h3 : (xs.map (·.1)).mapM (flatD n) = some ch := by
          rw [List.mapM_map]; exact h1
        simp only [flatD, h3, Option.map_some, h2]
        rw [Nat.zero_mul, List.drop_zero, List.take_of_length_le (by rw [hl, hct]; exact Nat.le_refl _)]
      · cases h
    · cases ha

/-- A table, out of the row's condition. -/
theorem tab_of_laid {P : Program} {W : World} {name : String} {d : DataW Unit} {rest : List (String × DataW Unit)} {g : Nat} {t : TypeId} {n : Nat} {vs : List Value}
    (hg : P.globalNamed name = some g) (hty : (P.globals[g]?).map (·.type) = some t) (ha : arrOK P n t = true) (hd : flatD n d = some vs) (h : laidMet P ((name, d) :: rest) W) : ∃ l z, W.heap[g]? = some (.cells vs.toArray l z) := by
  obtain ⟨ps, ⟨g', t', cs, fuel, p, q, hg', ht', hvar, hd', _, _⟩, _⟩ := h
  obtain rfl := Option.some.inj (hg.symm.trans hg')
  obtain rfl := Option.some.inj (hty.symm.trans ht')
  have hf := trod_flat n fuel t _ d p ha hd'
  rw [hd] at hf
  have e : vs = cs.toList := Option.some.inj hf
  subst e
  unfold World.var? at hvar
  rw [hg] at hvar
  simp only [Option.bind_some] at hvar
  cases hh : W.heap[g]? with
  | none => rw [hh] at hvar; cases hvar
  | some o =>
    rw [hh] at hvar
    cases o with
    | cells c l z =>
      have hc : c = cs := by simpa using hvar
      subst hc
      exact ⟨l, z, by simp⟩
    | _ => simp at hvar
end Go.Proofs.YtfogafinohfpfaaGreatDoorV
