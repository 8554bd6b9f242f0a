/- The checker of names: statements; what changes where an output is left out. -/
import Derived.Test.YtfogafinohfpfaaGreatDoorPNlB
namespace Go.Proofs.YtfogafinohfpfaaGreatDoorV
set_option linter.unusedVariables false
set_option linter.unusedSimpArgs false

abbrev SErr := Int × SM × SM × List ByteArray × List ByteArray × List LBL
abbrev SOut := SM × SM × List ByteArray × List ByteArray × List LBL
abbrev SFn := SM → SM → List LBL → List ByteArray → List ByteArray → Option (SErr ⊕ SOut)

/-- No node bears too many names. -/
inductive PB : Node → Prop
  | mk (k : Int) (s : ByteArray) (n a : Int) (l : List Node) (p : List ByteArray) (hl : ∀ x ∈ l, PB x) (hp : p.length ≤ 1048576) : PB (.mk k s n a l p)
theorem PB.l {x : Node} (h : PB x) : ∀ y ∈ x.l, PB y := by cases h with | mk k s n a l p hl hp => exact hl
theorem PB.p {x : Node} (h : PB x) : x.p.length ≤ 1048576 := by cases h with | mk k s n a l p hl hp => exact hp

def SZ (o : List LBL) (p q : List ByteArray) (c : Nat) : Prop := o.length + c ≤ 4000 ∧ p.length + 1048576 * c ≤ 4194304000 ∧ q.length + 1048576 * c ≤ 4194304000
/-- Labels but for those of a name. -/
def flt (s : ByteArray) (o : List LBL) : List LBL := o.filter fun x => !labB s x
theorem flt_len (s : ByteArray) (o : List LBL) : (flt s o).length ≤ o.length := List.length_filter_le _ _
theorem flt_none {s : ByteArray} {o : List LBL} (h : o.any (labB s) = false) : flt s o = o := by
  rw [flt, List.filter_eq_self]
  intro x hx
  rw [List.any_eq_false] at h
  simpa using h x hx
theorem flt_any {s t : ByteArray} {o : List LBL} (h : o.any (labB t) = false) : (flt s o).any (labB t) = false := by
  rw [List.any_eq_false] at h ⊢
  intro x hx
  exact h x (List.mem_filter.1 hx).1
theorem lab_ne {s t : ByteArray} {o : List LBL} (h1 : o.any (labB s) = true) (h2 : o.any (labB t) = false) (b : Bool × Bool) : labB s (t, b) = false := by
  cases h : labB s (t, b) with
  | false => rfl
  | true =>
    have e : t.toList = s.toList := by simpa [labB] using h
    have : labB t = labB s := by funext x; simp only [labB, e]
    rw [this, h1] at h2
    cases h2

/-- What holds of a step: it comes to something; sizes; and with a name's labels left out the same comes of it. -/
def Sim (F : SFn) (so fu : SM) (o : List LBL) (p q : List ByteArray) (c : Nat) : Prop :=
  ∃ res, F so fu o p q = some res ∧ ∀ y, res = .inr y → SZ y.2.2.2.2 y.2.2.2.1 y.2.2.1 c ∧ ∀ s, o.any (labB s) = true → y.2.2.2.2.any (labB s) = true ∧ F so fu (flt s o) p q = some (.inr (y.1, y.2.1, y.2.2.1, y.2.2.2.1, flt s y.2.2.2.2))

theorem Sim.unif {F : SFn} {so fu : SM} {o : List LBL} {p q : List ByteArray} {c : Nat} (z : Option (SM × SM × List ByteArray × List ByteArray)) (E : List LBL → SErr)
    (h : ∀ o', F so fu o' p q = some (match z with | some w => .inr (w.1, w.2.1, w.2.2.1, w.2.2.2, o') | none => .inl (E o'))) (hs : ∀ w, z = some w → SZ o w.2.2.2 w.2.2.1 c) : Sim F so fu o p q c := by
  cases z with
  | none => exact ⟨_, h o, fun y hy => by cases hy⟩
  | some w =>
    refine ⟨_, h o, fun y hy => ?_⟩
    cases hy
    exact ⟨hs w rfl, fun s ho => ⟨ho, h (flt s o)⟩⟩

section
variable (N : Nat) (hN : 4000000000 < N)
include hN

theorem j16_is (r : List Node → SFn) (k : Int) (s : ByteArray) (a : Int) (l : List Node) (so fu : SM) (q p : List ByteArray) (o : List LBL) (hd : depL l ≤ 300) (hc : cntL l ≤ 3000) (ho : o.length ≤ 4000) :
    names_checker_stmt_j16 N r true k s a l so fu q p o = some (match exL so fu l with | some e => .inl e | none => if o.any (labB s) = true then .inl a else .inr (o ++ [(s, (false, k == 9))])) := by
  have hw : ∀ b : Bool, names_wrong N [b] = some (if b = true then .inl () else .inr ()) := fun b => by rw [wrong_is N hN [b] (by simp)]; cases b <;> rfl
  simp only [names_checker_stmt_j16, names_checker_stmt_j16_T, run_call, run_br, run_ret, if_true, exprs_is N hN so fu l hd hc, Option.bind_some]
  cases exL so fu l with
  | some e => rfl
  | none =>
    simp only [toE, run_inr, run_call, cf_lab N hN o s (by omega), hw, Option.bind_some]
    cases o.any (labB s) with
    | true => rfl
    | false =>
      simp only [Bool.false_eq_true, if_false, run_inr, run_br, run_ret]
      rw [ltI_eq, decide_eq_true (by omega)]
      rfl

/-- One statement. -/
theorem stmt_sim {r : List Node → SFn} {D : Nat} (hr : ∀ l so fu o p q c, depL l ≤ D → depL l ≤ 300 → cntL l ≤ 3000 → (∀ x ∈ l, PB x) → SZ o p q (cntL l + c) → Sim (r l) so fu o p q c)
    (x : Node) (hd : depN x ≤ D + 1) (hd3 : depN x ≤ 300) (hc : cntN x ≤ 3000) (hp : PB x) (so fu : SM) (o : List LBL) (p q : List ByteArray) (c : Nat) (hz : SZ o p q (cntN x + c)) :
    Sim (fun so fu o p q => names_checker_stmt N r x.k x.s x.a x.l x.p so fu o p q) so fu o p q c := by
  rw [depN_eq] at hd hd3
  rw [cntN_eq] at hc hz
  obtain ⟨z1, z2, z3⟩ := hz
  have hpl := hp.p
  have hw1 : ∀ b : Bool, names_wrong N [b] = some (if b = true then .inl () else .inr ()) := fun b => by rw [wrong_is N hN [b] (by simp)]; cases b <;> rfl
  have hw3 : ∀ a b d : Bool, names_wrong N [a, b, d] = some (if (a || b || d) = true then .inl () else .inr ()) := fun a b d => by rw [wrong_is N hN [a, b, d] (by simp)]; cases a <;> cases b <;> cases d <;> rfl
  have hex := fun o' p' q' => exprs_is N hN so fu x.l (by omega) (by omega) o' p' q'
  obtain ⟨zq, iq1, _, iq3⟩ := inputs_ok N hN x.p so fu q hpl (by omega)
  obtain ⟨zp, _, ip2, ip3⟩ := inputs_ok N hN x.p so fu p hpl (by omega)
  obtain ⟨zf, if1, _⟩ := function_ok N hN x.s x.a x.l x.p so fu hpl (by omega) (by omega)
  generalize hk : x.k = k
  by_cases h6 : k = 6
  · subst h6
    refine Sim.unif (match zq with | .inl _ => none | .inr w => some (w.1, fu, w.2, p)) (fun o' => (x.a, so, fu, q, p, o')) (fun o' => ?_) (fun w hw => ?_)
    · show (names_checker_stmt_T N r 6 x.s x.a x.l x.p so fu o' p q).run some = _
      simp only [names_checker_stmt_T, run_call, run_br, beq_self_eq_true, if_true, iq1, Option.bind_some]
      cases zq <;> rfl
    · cases zq with
      | inl _ => cases hw
      | inr v =>
        cases hw
        have := iq3 v rfl
        refine ⟨by omega, by show p.length + _ ≤ _; omega, by show v.2.length + _ ≤ _; omega⟩
  have e6 : (k == 6) = false := by simp [h6]
  by_cases h7 : k = 7
  · subst h7
    refine Sim.unif (match zp with | .inl _ => none | .inr w => some (w.1, fu, q, w.2)) (fun o' => (x.a, so, fu, q, p, o')) (fun o' => ?_) (fun w hw => ?_)
    · show (names_checker_stmt_T N r 7 x.s x.a x.l x.p so fu o' p q).run some = _
      simp only [names_checker_stmt_T, run_call, run_br, e6, Bool.false_eq_true, if_false, beq_self_eq_true, if_true, ip2, Option.bind_some]
      cases zp <;> rfl
    · cases zp with
      | inl _ => cases hw
      | inr v =>
        cases hw
        have := ip3 v rfl
        refine ⟨by omega, by show v.2.length + _ ≤ _; omega, by show q.length + _ ≤ _; omega⟩
  have e7 : (k == 7) = false := by simp [h7]
  by_cases h12 : k = 12
  · subst h12
    refine Sim.unif (match zf with | .inl _ => none | .inr w => some (so, w, q, p)) (fun o' => (match zf with | .inl e => e | .inr _ => 0, so, fu, q, p, o')) (fun o' => ?_) (fun w hw => ?_)
    · show (names_checker_stmt_T N r 12 x.s x.a x.l x.p so fu o' p q).run some = _
      simp only [names_checker_stmt_T, run_call, run_br, e6, e7, Bool.false_eq_true, if_false, beq_self_eq_true, if_true, if1, Option.bind_some]
      cases zf <;> rfl
    · cases zf with
      | inl _ => cases hw
      | inr v =>
        cases hw
        refine ⟨by omega, by show p.length + _ ≤ _; omega, by show q.length + _ ≤ _; omega⟩
  have e12 : (k == 12) = false := by simp [h12]
  by_cases h11 : k = 11
  · subst h11
    -- a loop
    have hsp : ∀ o', names_checker_stmt N r 11 x.s x.a x.l x.p so fu o' p q = (names_checker_loop N r x.s x.a x.l so fu o' p q).bind fun z => some (match z with | .inl e => .inl e | .inr w => .inr (so, w.1, w.2.1, w.2.2.1, w.2.2.2)) := by
      intro o'
      show (names_checker_stmt_T N r 11 x.s x.a x.l x.p so fu o' p q).run some = _
      simp only [names_checker_stmt_T, run_call, run_br, e6, e7, e12, Bool.false_eq_true, if_false, beq_self_eq_true, if_true]
      cases names_checker_loop N r x.s x.a x.l so fu o' p q with
      | none => rfl
      | some z => cases z <;> rfl
    have hat : (if (2 : Int) < (x.l.length : Int) then (2 : Int) else x.l.length) = ((min 2 x.l.length : Nat) : Int) := by split <;> omega
    have hcut : cntL x.l = cntL (x.l.take (min 2 x.l.length)) + cntL (x.l.drop (min 2 x.l.length)) := by rw [← cntL_append, List.take_append_drop]
    have hdep : depL x.l = max (depL (x.l.take (min 2 x.l.length))) (depL (x.l.drop (min 2 x.l.length))) := by rw [← depL_append, List.take_append_drop]
    have hlo : ∀ o', names_checker_loop N r x.s x.a x.l so fu o' p q = match exL so fu (x.l.take (min 2 x.l.length)) with
        | some e => some (.inl (e, so, fu, q, p, o'))
        | none => if takenB so fu x.s = true then some (.inl (x.a, so, fu, q, p, o')) else
          (r (x.l.drop (min 2 x.l.length)) (setE (eqE .str) x.s 3 so) fu o' p q).bind fun z => some (match z with | .inl e => .inl e | .inr w => .inr (w.2.1, w.2.2.1, w.2.2.2.1, w.2.2.2.2)) := by
      intro o'
      show (names_checker_loop_T N r x.s x.a x.l so fu o' p q).run some = _
      simp only [names_checker_loop_T, hat, toNat_nat, run_br, run_call, taken_is, hw1, Option.bind_some, exprs_is N hN so fu (x.l.take (min 2 x.l.length)) (by omega) (by omega)]
      have hg : (leI 0 ((min 2 x.l.length : Nat) : Int) && leI ((min 2 x.l.length : Nat) : Int) (x.l.length : Int)) = true := by rw [Bool.and_eq_true, leI_eq, leI_eq, decide_eq_true_eq, decide_eq_true_eq]; omega
      rw [hg, if_pos rfl]
      cases exL so fu (x.l.take (min 2 x.l.length)) with
      | some e => rfl
      | none =>
        simp only [toE, run_inr, run_call, taken_is, hw1, Option.bind_some]
        cases takenB so fu x.s with
        | true => rfl
        | false =>
          have hmc : maps_Clone N = some () := rfl
          simp only [Bool.false_eq_true, if_false, run_inr, run_call, run_br, hmc, Option.bind_some, hg, if_true]
          cases r (x.l.drop (min 2 x.l.length)) (setE (eqE .str) x.s 3 so) fu o' p q with
          | none => rfl
          | some z => cases z <;> rfl
    cases hE : exL so fu (x.l.take (min 2 x.l.length)) with
    | some e =>
      refine Sim.unif none (fun o' => (e, so, fu, q, p, o')) (fun o' => ?_) (fun w hw => by cases hw)
      show names_checker_stmt N r 11 x.s x.a x.l x.p so fu o' p q = _
      rw [hsp, hlo, hE]; rfl
    | none =>
      cases hT : takenB so fu x.s with
      | true =>
        refine Sim.unif none (fun o' => (x.a, so, fu, q, p, o')) (fun o' => ?_) (fun w hw => by cases hw)
        show names_checker_stmt N r 11 x.s x.a x.l x.p so fu o' p q = _
        rw [hsp, hlo, hE, hT]; rfl
      | false =>
        obtain ⟨res, h1, h2⟩ := hr (x.l.drop (min 2 x.l.length)) (setE (eqE .str) x.s 3 so) fu o p q c (by omega) (by omega) (by omega) (fun y hy => hp.l y (List.mem_of_mem_drop hy)) ⟨by omega, by omega, by omega⟩
        have hrun : ∀ o' res', r (x.l.drop (min 2 x.l.length)) (setE (eqE .str) x.s 3 so) fu o' p q = some res' → names_checker_stmt N r 11 x.s x.a x.l x.p so fu o' p q = some (match res' with | .inl e => .inl e | .inr w => .inr (so, w.2.1, w.2.2.1, w.2.2.2.1, w.2.2.2.2)) := by
          intro o' res' hh
          rw [hsp, hlo, hE, hT]
          simp only [Bool.false_eq_true, if_false, hh, Option.bind_some]
          cases res' <;> rfl
        refine ⟨_, hrun o res h1, fun y hy => ?_⟩
        cases res with
        | inl e => cases hy
        | inr w =>
          cases hy
          obtain ⟨g1, g2⟩ := h2 w rfl
          refine ⟨g1, fun s hs => ?_⟩
          obtain ⟨g3, g4⟩ := g2 s hs
          exact ⟨g3, hrun _ _ g4⟩
  have e11 : (k == 11) = false := by simp [h11]
  by_cases h10 : k = 10
  · subst h10
    cases hE : exL so fu x.l with
    | some e =>
      refine Sim.unif none (fun o' => (e, so, fu, q, p, o')) (fun o' => ?_) (fun w hw => by cases hw)
      show (names_checker_stmt_T N r 10 x.s x.a x.l x.p so fu o' p q).run some = _
      simp only [names_checker_stmt_T, run_call, run_br, e6, e7, e12, e11, Bool.false_eq_true, if_false, beq_self_eq_true, if_true, hex, hE, Option.bind_some]
      rfl
    | none =>
      cases hB : (hasE (eqE .str) x.s fu || getE (eqE .str) x.s 0 so == 1 || getE (eqE .str) x.s 0 so == 3) with
      | true =>
        refine Sim.unif none (fun o' => (x.a, so, fu, q, p, o')) (fun o' => ?_) (fun w hw => by cases hw)
        show (names_checker_stmt_T N r 10 x.s x.a x.l x.p so fu o' p q).run some = _
        simp only [names_checker_stmt_T, run_call, run_br, e6, e7, e12, e11, Bool.false_eq_true, if_false, beq_self_eq_true, if_true, hex, hE, Option.bind_some, toE, run_inr, fun_is, hw3, hB]
        rfl
      | false =>
        refine Sim.unif (some (setE (eqE .str) x.s 2 so, fu, q, p)) (fun o' => (x.a, so, fu, q, p, o')) (fun o' => ?_) (fun w hw => ?_)
        · show (names_checker_stmt_T N r 10 x.s x.a x.l x.p so fu o' p q).run some = _
          simp only [names_checker_stmt_T, run_call, run_br, e6, e7, e12, e11, Bool.false_eq_true, if_false, beq_self_eq_true, if_true, hex, hE, Option.bind_some, toE, run_inr, fun_is, hw3, hB]
          rfl
        · cases hw
          refine ⟨by omega, by show p.length + _ ≤ _; omega, by show q.length + _ ≤ _; omega⟩
  have e10 : (k == 10) = false := by simp [h10]
  by_cases h89 : k = 8 ∨ k = 9
  · have hrun : ∀ o', o'.length ≤ 4000 → names_checker_stmt N r k x.s x.a x.l x.p so fu o' p q = some (match exL so fu x.l with | some e => .inl (e, so, fu, q, p, o') | none => if o'.any (labB x.s) = true then .inl (x.a, so, fu, q, p, o') else .inr (so, fu, q, p, o' ++ [(x.s, (false, k == 9))])) := by
      intro o' ho
      have hj := j16_is N hN r k x.s x.a x.l so fu q p o' (by omega) (by omega) ho
      show (names_checker_stmt_T N r k x.s x.a x.l x.p so fu o' p q).run some = _
      rcases h89 with h8 | h9
      · subst h8
        simp only [names_checker_stmt_T, run_call, run_br, e6, e7, e12, e11, e10, Bool.false_eq_true, if_false, beq_self_eq_true, if_true, hj, Option.bind_some]
        cases exL so fu x.l with
        | some e => rfl
        | none => cases o'.any (labB x.s) <;> rfl
      · subst h9
        have e8 : ((9 : Int) == 8) = false := rfl
        simp only [names_checker_stmt_T, run_call, run_br, e6, e7, e12, e11, e10, e8, Bool.false_eq_true, if_false, beq_self_eq_true, if_true, hj, Option.bind_some]
        cases exL so fu x.l with
        | some e => rfl
        | none => cases o'.any (labB x.s) <;> rfl
    cases hE : exL so fu x.l with
    | some e =>
      rw [hE] at hrun
      exact ⟨_, hrun o (by omega), fun y hy => by cases hy⟩
    | none =>
      rw [hE] at hrun
      cases hA : o.any (labB x.s) with
      | true => exact ⟨_, hrun o (by omega), fun y hy => by simp only [hA, if_true] at hy; cases hy⟩
      | false =>
        refine ⟨_, hrun o (by omega), fun y hy => ?_⟩
        simp only [hA, Bool.false_eq_true, if_false] at hy
        cases hy
        refine ⟨⟨by simp only [List.length_append, List.length_singleton]; omega, by show p.length + _ ≤ _; omega, by show q.length + _ ≤ _; omega⟩, fun s hs => ⟨by simp only [List.any_append, hs, Bool.true_or], ?_⟩⟩
        have := flt_len s o
        refine (hrun (flt s o) (by omega)).trans ?_
        rw [if_neg (by rw [flt_any hA]; simp)]
        simp only [flt, List.filter_append, List.filter_cons, lab_ne hs hA, List.filter_nil, Bool.not_false, if_true]
  · have h8 : k ≠ 8 := fun e => h89 (.inl e)
    have h9 : k ≠ 9 := fun e => h89 (.inr e)
    have e8 : (k == 8) = false := by simp [h8]
    have e9 : (k == 9) = false := by simp [h9]
    refine Sim.unif (some (so, fu, q, p)) (fun o' => (x.a, so, fu, q, p, o')) (fun o' => ?_) (fun w hw => ?_)
    · show (names_checker_stmt_T N r k x.s x.a x.l x.p so fu o' p q).run some = _
      have hj : names_checker_stmt_j16 N r false k x.s x.a x.l so fu q p o' = some (.inr o') := by
        simp only [names_checker_stmt_j16, names_checker_stmt_j16_T, run_br, Bool.false_eq_true, if_false, run_ret]
      simp only [names_checker_stmt_T, run_call, run_br, e6, e7, e12, e11, e10, e8, e9, Bool.false_eq_true, if_false, hj, Option.bind_some]
      rfl
    · cases hw
      refine ⟨by omega, by show p.length + _ ≤ _; omega, by show q.length + _ ≤ _; omega⟩
end
end Go.Proofs.YtfogafinohfpfaaGreatDoorV
