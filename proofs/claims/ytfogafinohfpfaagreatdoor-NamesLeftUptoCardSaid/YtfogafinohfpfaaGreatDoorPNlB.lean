/- The checker of names: expressions, and what each statement comes to. -/
import Derived.Test.YtfogafinohfpfaaGreatDoorPNlA
namespace Go.Proofs.YtfogafinohfpfaaGreatDoorV
set_option linter.unusedVariables false
set_option linter.unusedSimpArgs false

def toE {E : Type} : Option E → E ⊕ Unit
  | some e => .inl e
  | none => .inr ()
theorem loop_ex {α E : Type} (N : Nat) (l : List α) (d : α) (g : α → Option E) (s : Int → Tree (Int ⊕ (E ⊕ Unit))) (hN : l.length < N)
    (h : ∀ i : Nat, i < l.length → (s (i : Int)).run some = some (match g (l.getD i d) with | some e => .inr (.inl e) | none => .inl ((i + 1 : Nat) : Int))) (hlast : (s (l.length : Int)).run some = some (.inr (.inr ()))) :
    loopN s N 0 = some (toE (l.findSome? g)) := by
  have := loop_st (s := s) (fun i : Nat => (i : Int)) (fun i => l.length - i) (fun i => i ≤ l.length) (fun i => toE ((l.drop i).findSome? g)) (fun i hi => ?_) N 0 (Nat.zero_le _) (by omega)
  · exact this
  · rcases Nat.lt_or_ge i l.length with hlt | hge
    · have hd : l.drop i = l.getD i d :: l.drop (i + 1) := by
        rw [List.drop_eq_getElem_cons hlt, getD_nat _ _ _ hlt]
      rw [h i hlt]
      cases hg : g (l.getD i d) with
      | some e => exact .inr (by rw [hd, List.findSome?_cons, hg]; rfl)
      | none => exact .inl ⟨i + 1, rfl, hlt, by omega, by rw [hd, List.findSome?_cons, hg]⟩
    · obtain rfl : i = l.length := by omega
      exact .inr (by rw [hlast, List.drop_length]; rfl)

mutual
def exF (so fu : SM) : Node → Option Int
  | .mk k s _ a l _ => if k = 1 then (if getE (eqE .str) s 0 so = 0 then some a else exL so fu l)
      else if k = 5 then (if hasE (eqE .str) s fu = true then (if getE (eqE .str) s 0 fu = (l.length : Int) then exL so fu l else some a) else some a) else exL so fu l
def exL (so fu : SM) : List Node → Option Int
  | [] => none
  | x :: l => match exF so fu x with
    | some e => some e
    | none => exL so fu l
end
theorem exF_eq (so fu : SM) (x : Node) : exF so fu x = if x.k = 1 then (if getE (eqE .str) x.s 0 so = 0 then some x.a else exL so fu x.l)
      else if x.k = 5 then (if hasE (eqE .str) x.s fu = true then (if getE (eqE .str) x.s 0 fu = (x.l.length : Int) then exL so fu x.l else some x.a) else some x.a) else exL so fu x.l := by cases x; rw [exF]; rfl
theorem exL_find (so fu : SM) : ∀ l, exL so fu l = l.findSome? (exF so fu)
  | [] => by rw [exL]; rfl
  | x :: l => by
    rw [exL, List.findSome?_cons, exL_find so fu l]
    cases exF so fu x <;> rfl

section
variable (N : Nat) (hN : 4000000000 < N)
include hN
theorem expr_R (so fu : SM) : ∀ (k : Nat) (x : Node), depN x ≤ k → cntN x ≤ 3000 → ∀ z1 z2 z3, names_checker_expr_R N k x.k x.s x.n x.a x.l x.p so fu z1 z2 z3 = some (toE (exF so fu x))
  | 0, x, h, _ => by rw [depN_eq] at h; omega
  | k + 1, x, h, hc => by
    intro z1 z2 z3
    rw [depN_eq] at h
    rw [cntN_eq] at hc
    have hl := len_cntL x.l
    have loop : ∀ z1 z2 z3, names_checker_expr_j6 N (names_checker_expr_R N k) so fu x.l z1 z2 z3 = some (toE (exL so fu x.l)) := by
      intro z1 z2 z3
      have key : names_checker_expr_l7 N (names_checker_expr_R N k) x.l (x.l.length : Int) so fu z1 z2 z3 0 = some (toE (x.l.findSome? (exF so fu))) := by
        unfold names_checker_expr_l7
        refine loop_ex N x.l nd0 (exF so fu) (fun v => names_checker_expr_l7_T N (names_checker_expr_R N k) x.l (x.l.length : Int) so fu z1 z2 z3 v) (by omega) (fun i hi => ?_) ?_
        · have hm : x.l.getD i nd0 ∈ x.l := getD_memT _ _ hi
          have hd := dep_mem hm
          have hcn := cnt_mem hm
          simp only [names_checker_expr_l7_T, run_br, run_call, run_ret, ltI_iff, inRange_iff, toNat_nat]
          rw [if_pos (by omega), if_pos (by omega), expr_R so fu k (x.l.getD i nd0) (by omega) (by omega), i64_succ (by omega)]
          cases exF so fu (x.l.getD i nd0) <;> rfl
        · simp only [names_checker_expr_l7_T, run_br, run_ret, ltI_iff]
          rw [if_neg (by omega)]
      simp only [names_checker_expr_j6, names_checker_expr_j6_T, run_call, run_ret]
      rw [key, exL_find]
      cases x.l.findSome? (exF so fu) <;> rfl
    show (names_checker_expr_T N (names_checker_expr_R N k) x.k x.s x.n x.a x.l x.p so fu z1 z2 z3).run some = _
    have hw : ∀ b : Bool, names_wrong N [b] = some (if b = true then .inl () else .inr ()) := fun b => by rw [wrong_is N hN [b] (by simp)]; cases b <;> rfl
    simp only [names_checker_expr_T, run_br, run_call, run_ret, fun_is, hw, loop, Option.bind_some]
    rw [exF_eq]
    generalize getE (eqE .str) x.s 0 so = g1
    generalize getE (eqE .str) x.s 0 fu = g2
    generalize hasE (eqE .str) x.s fu = g3
    generalize exL so fu x.l = g4
    generalize (x.l.length : Int) = g5
    generalize x.k = kk
    by_cases h1 : kk = 1
    · subst h1
      by_cases h2 : g1 = 0
      · subst h2; rfl
      · have : (g1 == 0) = false := by simp [h2]
        rw [this, if_pos rfl, if_neg h2]
        cases g4 <;> rfl
    · have e1 : (kk == 1) = false := by simp [h1]
      rw [e1, if_neg h1]
      by_cases h2 : kk = 5
      · subst h2
        cases g3 with
        | false => rfl
        | true =>
          by_cases h3 : g2 = g5
          · subst h3
            have : (g2 != g2) = false := by simp
            rw [this, if_pos rfl, if_pos rfl, if_pos rfl]
            cases g4 <;> rfl
          · have : (g2 != g5) = true := by simp [h3]
            rw [this, if_pos rfl, if_pos rfl, if_neg h3]
            rfl
      · have e2 : (kk == 5) = false := by simp [h2]
        rw [e2, if_neg h2]
        cases g4 <;> rfl

theorem exprs_is (so fu : SM) (l : List Node) (hd : depL l ≤ 300) (hc : cntL l ≤ 3000) (z1 : List LBL) (z2 z3 : List ByteArray) : names_checker_exprs N l so fu z1 z2 z3 = some (toE (exL so fu l)) := by
  have hl := len_cntL l
  have key : names_checker_exprs_l1 N l (l.length : Int) so fu z3 z2 z1 0 = some (toE (l.findSome? (exF so fu))) := by
    unfold names_checker_exprs_l1
    refine loop_ex N l nd0 (exF so fu) (fun v => names_checker_exprs_l1_T N l (l.length : Int) so fu z3 z2 z1 v) (by omega) (fun i hi => ?_) ?_
    · have hm : l.getD i nd0 ∈ l := getD_memT _ _ hi
      have hd := dep_mem hm
      have hcn := cnt_mem hm
      have := expr_R N hN so fu N (l.getD i nd0) (by omega) (by omega) z1 z2 z3
      simp only [names_checker_exprs_l1_T, run_br, run_call, run_ret, ltI_iff, inRange_iff, toNat_nat, names_checker_expr]
      rw [if_pos (by omega), if_pos (by omega), this, i64_succ (by omega)]
      cases exF so fu (l.getD i nd0) <;> rfl
    · simp only [names_checker_exprs_l1_T, run_br, run_ret, ltI_iff]
      rw [if_neg (by omega)]
  simp only [names_checker_exprs, names_checker_exprs_T, run_call, run_ret]
  rw [key, exL_find]
  cases l.findSome? (exF so fu) <;> rfl

/-- Inputs: the list is longer by them. -/
theorem inputs_ok (p : List ByteArray) (so fu : SM) (sec : List ByteArray) (hp : p.length ≤ 1048576) (hs : sec.length ≤ 5000000000) :
    ∃ z, names_checker_inputs N p so fu sec = some z ∧ names_checker_inputs_2 N p so fu sec = some z ∧ ∀ w, z = .inr w → w.2.length = sec.length + p.length := by
  obtain ⟨t, ht, _⟩ := twice_ok N hN p (by omega)
  have hw : ∀ a b : Bool, names_wrong N [a, b] = some (if (a || b) = true then .inl () else .inr ()) := fun a b => by rw [wrong_is N hN [a, b] (by simp)]; cases a <;> cases b <;> rfl
  have l3 : ∃ so', names_checker_inputs_l3 N p (p.length : Int) (0, so) = some so' ∧ names_checker_inputs_2_l3 N p (p.length : Int) (0, so) = some so' := by
    refine ⟨(p.foldl (fun m x => setE (eqE .str) x 1 m) so), ?_, ?_⟩
    · unfold names_checker_inputs_l3
      refine loop_up (s := fun v : Int × SM => names_checker_inputs_l3_T N p (p.length : Int) v.1 v.2) (fun i : Nat => ((i : Int), (p.take i).foldl (fun m x => setE (eqE .str) x 1 m) so)) p.length _ (k := 0) (by omega) (by omega) (fun i _ hi => ?_) ?_
      · simp only [names_checker_inputs_l3_T, run_br, run_ret, ltI_iff, inRange_iff, toNat_nat]
        rw [if_pos (by omega), if_pos (by omega), takeS p ByteArray.empty hi, List.foldl_append, i64_succ (by omega)]
        rfl
      · simp only [names_checker_inputs_l3_T, run_br, run_ret, ltI_iff, List.take_length]
        rw [if_neg (by omega)]
    · unfold names_checker_inputs_2_l3
      refine loop_up (s := fun v : Int × SM => names_checker_inputs_2_l3_T N p (p.length : Int) v.1 v.2) (fun i : Nat => ((i : Int), (p.take i).foldl (fun m x => setE (eqE .str) x 1 m) so)) p.length _ (k := 0) (by omega) (by omega) (fun i _ hi => ?_) ?_
      · simp only [names_checker_inputs_2_l3_T, run_br, run_ret, ltI_iff, inRange_iff, toNat_nat]
        rw [if_pos (by omega), if_pos (by omega), takeS p ByteArray.empty hi, List.foldl_append, i64_succ (by omega)]
        rfl
      · simp only [names_checker_inputs_2_l3_T, run_br, run_ret, ltI_iff, List.take_length]
        rw [if_neg (by omega)]
  obtain ⟨so', h1, h2⟩ := l3
  simp only [names_checker_inputs, names_checker_inputs_T, names_checker_inputs_2, names_checker_inputs_2_T, run_call, run_br, run_ret, cf_taken N hN p so fu (by omega), ht, hw, Option.bind_some, h1, h2, ltI_iff]
  cases hb : (p.any (takenB so fu) || t) with
  | true => exact ⟨.inl (), rfl, rfl, fun w hw => by cases hw⟩
  | false =>
    refine ⟨.inr (so', sec ++ p), ?_, ?_, fun w hw => by cases hw; simp⟩
    · simp only [Bool.false_eq_true, if_false, run_inr, run_call, run_br, run_ret, h1, Option.bind_some]
      rw [ltI_eq, decide_eq_true (by omega)]
      rfl
    · simp only [Bool.false_eq_true, if_false, run_inr, run_call, run_br, run_ret, h2, Option.bind_some]
      rw [ltI_eq, decide_eq_true (by omega)]
      rfl

theorem function_ok (s : ByteArray) (a : Int) (l : List Node) (p : List ByteArray) (so fu : SM) (hp : p.length ≤ 1048576) (hd : depL l ≤ 300) (hc : cntL l ≤ 3000) : OS (names_checker_function N s a l p so fu) (fun _ => True) := by
  obtain ⟨t, ht, _⟩ := twice_ok N hN p (by omega)
  refine OS.of ?_
  unfold names_checker_function_T
  refine TS.call (P := fun _ => True) ⟨_, taken_is N s so fu, trivial⟩ (fun y1 _ => ?_)
  refine TS.call (P := fun _ => True) ⟨_, ht, trivial⟩ (fun y2 _ => ?_)
  refine TS.call (P := fun _ => True) ⟨_, cf_fun N hN p fu (by omega), trivial⟩ (fun y3 _ => ?_)
  refine TS.call (P := fun _ => True) ⟨_, ct_str N hN p s (by omega), trivial⟩ (fun y4 _ => ?_)
  refine TS.call (P := fun _ => True) ⟨_, wrong_is N hN _ (by simp), trivial⟩ (fun y5 _ => ?_)
  cases y5 with
  | inl u => exact TS.ret trivial
  | inr u =>
    refine TS.call (P := fun _ => True) ?_ (fun y9 _ => ?_)
    · refine loop_os (fun v : Int × SM => 0 ≤ v.1 ∧ v.1 ≤ p.length) (fun v => (p.length - v.1).toNat) _ (by dsimp only; omega) (by dsimp only; omega) (fun v hv => ?_)
      unfold names_checker_function_l4_T
      refine TS.br (fun hc3 => ?_) (fun hc3 => TS.ret trivial)
      rw [ltI_eq, decide_eq_true_eq] at hc3
      have f1 : IntKind.i64.wrap (v.1 + 1) = v.1 + 1 := i64_in (by omega)
      refine TS.brT (by rw [inRange_iff]; omega) ?_
      refine TS.ret ?_
      dsimp only [EP]
      rw [f1]
      omega
    · refine TS.call (P := fun _ => True) ⟨_, exprs_is N hN y9 fu l hd hc [] [] [], trivial⟩ (fun y10 _ => ?_)
      cases y10 <;> exact TS.ret trivial
end
end Go.Proofs.YtfogafinohfpfaaGreatDoorV
