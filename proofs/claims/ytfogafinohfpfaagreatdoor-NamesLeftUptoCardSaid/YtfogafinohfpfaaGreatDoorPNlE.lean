/- The plain law of chapter 12: NamesLeft (end). -/
import Derived.Test.YtfogafinohfpfaaGreatDoorPNlD
namespace Go.Proofs.YtfogafinohfpfaaGreatDoorV
set_option linter.unusedVariables false
set_option linter.unusedSimpArgs false

theorem names_lives (m : Nat) : bautalaw12_lives (m + 200) = some true := by kernel_rfl
theorem lives_ok (N : Nat) (h : 200 ≤ N) : bautalaw12_lives N = some true := by
  obtain ⟨m, rfl⟩ : ∃ m, N = m + 200 := ⟨N - 200, by omega⟩
  exact names_lives m

theorem stmt89 (N : Nat) (hN : 4000000000 < N) (r : List Node → SFn) (x : Node) (hx : x.k = 8 ∨ x.k = 9) (so fu : SM) (o : List LBL) (p q : List ByteArray) (hd : depL x.l ≤ 300) (hc : cntL x.l ≤ 3000) (ho : o.length ≤ 4000) :
    stF N r x so fu o p q = some (match exL so fu x.l with | some e => .inl (e, so, fu, q, p, o) | none => if o.any (labB x.s) = true then .inl (x.a, so, fu, q, p, o) else .inr (so, fu, q, p, o ++ [(x.s, (false, x.k == 9))])) := by
  have hj := j16_is N hN r x.k x.s x.a x.l so fu q p o hd hc ho
  show (names_checker_stmt_T N r x.k x.s x.a x.l x.p so fu o p q).run some = _
  generalize x.k = k at hx hj ⊢
  rcases hx with h8 | h9
  · subst h8
    have e6 : ((8 : Int) == 6) = false := rfl
    have e7 : ((8 : Int) == 7) = false := rfl
    have e12 : ((8 : Int) == 12) = false := rfl
    have e11 : ((8 : Int) == 11) = false := rfl
    have e10 : ((8 : Int) == 10) = false := rfl
    simp only [names_checker_stmt_T, run_call, run_br, e6, e7, e12, e11, e10, Bool.false_eq_true, if_false, beq_self_eq_true, if_true, hj, Option.bind_some]
    cases exL so fu x.l with
    | some e => rfl
    | none => cases o.any (labB x.s) <;> rfl
  · subst h9
    have e6 : ((9 : Int) == 6) = false := rfl
    have e7 : ((9 : Int) == 7) = false := rfl
    have e12 : ((9 : Int) == 12) = false := rfl
    have e11 : ((9 : Int) == 11) = false := rfl
    have e10 : ((9 : Int) == 10) = false := rfl
    have e8 : ((9 : Int) == 8) = false := rfl
    simp only [names_checker_stmt_T, run_call, run_br, e6, e7, e12, e11, e10, e8, Bool.false_eq_true, if_false, beq_self_eq_true, if_true, hj, Option.bind_some]
    cases exL so fu x.l with
    | some e => rfl
    | none => cases o.any (labB x.s) <;> rfl

section
variable (N : Nat) (hN : 4294304001 < N) (l : List Node) (hd : depL l ≤ 299) (hc : cntL l ≤ 2999) (hp : ∀ x ∈ l, PB x)
include hN hd hc hp

theorem f_sim : ∀ x ∈ l, ∀ so fu o p q c, SZ o p q (cntN x + c) → Sim (stF N (names_checker_stmts_R N (N - 1)) x) so fu o p q c := by
  obtain ⟨M, rfl⟩ : ∃ M, N = M + 2 := ⟨N - 2, by omega⟩
  intro x hx so fu o p q c hz
  have g1 := dep_mem hx
  have g2 := cnt_mem hx
  exact stmt_sim (M + 2) (by omega) (r := names_checker_stmts_R (M + 2) (M + 1)) (D := 300) (fun l so fu o p q c a1 a2 a3 a4 a5 => stmts_sim (M + 2) (by omega) M l so fu o p q c (by omega) a2 a3 a4 a5) x (by omega) (by omega) (by omega) (hp x hx) so fu o p q c hz

omit hd hp in
theorem stmts_all : names_checker_stmts N l [] selM [] [] [] = runS (stF N (names_checker_stmts_R N (N - 1))) l [] selM [] [] [] := by
  obtain ⟨M, rfl⟩ : ∃ M, N = M + 1 := ⟨N - 1, by omega⟩
  have hl := len_cntL l
  exact stmts_T_is (M + 1) (names_checker_stmts_R (M + 1) M) l (by omega) (by omega) _ _ _ _ _

/-- With an output left out the same comes of it, but for its label. -/
theorem left_out {y : SOut} (h : names_checker_stmts N l [] selM [] [] [] = some (.inr y)) {j : Nat} (hj : j < l.length) (hk : (l.getD j nd0).k = 8 ∨ (l.getD j nd0).k = 9) :
    names_checker_stmts N (l.take j ++ l.drop (j + 1)) [] selM [] [] [] = some (.inr (y.1, y.2.1, y.2.2.1, y.2.2.2.1, flt (l.getD j nd0).s y.2.2.2.2)) := by
  have fs := f_sim N hN l hd hc hp
  have e0 := stmts_all N hN l hc
  rw [h] at e0
  have hsp : l = l.take j ++ l.getD j nd0 :: l.drop (j + 1) := by
    conv => lhs; rw [← List.take_append_drop j l]
    congr 1
    rw [List.drop_eq_getElem_cons hj, getD_nat _ _ _ hj]
  have hcn : cntL l = cntL (l.take j) + (cntN (l.getD j nd0) + cntL (l.drop (j + 1))) := by
    conv => lhs; rw [hsp]
    rw [cntL_append, cntL]
  have hdp : depL l = max (depL (l.take j)) (max (depN (l.getD j nd0)) (depL (l.drop (j + 1)))) := by
    conv => lhs; rw [hsp]
    rw [depL_append, depL]
  have hm : l.getD j nd0 ∈ l := getD_memT _ _ hj
  have e1 := stmts_all N hN (l.take j ++ l.drop (j + 1)) (by rw [cntL_append]; omega)
  rw [e1, runS_append]
  have e0' : some (.inr y) = runS (stF N (names_checker_stmts_R N (N - 1))) (l.take j ++ l.getD j nd0 :: l.drop (j + 1)) [] selM [] [] [] := by rw [← hsp]; exact e0
  rw [runS_append] at e0'
  obtain ⟨res1, a1, a2⟩ := runS_sim (l.take j) (fun x hx => fs x (List.mem_of_mem_take hx)) [] selM [] [] [] (cntN (l.getD j nd0) + cntL (l.drop (j + 1))) ⟨by simp only [List.length_nil, Nat.zero_add]; omega, by simp only [List.length_nil, Nat.zero_add]; omega, by simp only [List.length_nil, Nat.zero_add]; omega⟩
  rw [a1] at e0' ⊢
  cases res1 with
  | inl e => cases e0'
  | inr y1 =>
    obtain ⟨⟨b1, b2, b3⟩, -⟩ := a2 y1 rfl
    dsimp only at e0' ⊢
    have hst := stmt89 N (by omega) (names_checker_stmts_R N (N - 1)) (l.getD j nd0) hk y1.1 y1.2.1 y1.2.2.2.2 y1.2.2.2.1 y1.2.2.1 (by rw [depN_eq] at hdp; omega) (by rw [cntN_eq] at hcn; omega) (by omega)
    cases hE : exL y1.1 y1.2.1 (l.getD j nd0).l with
    | some e =>
      rw [hE] at hst
      rw [runS_cons hst] at e0'
      cases e0'
    | none =>
      rw [hE] at hst
      cases hA : y1.2.2.2.2.any (labB (l.getD j nd0).s) with
      | true =>
        rw [hA] at hst
        rw [runS_cons hst] at e0'
        cases e0'
      | false =>
        rw [hA] at hst
        rw [runS_cons hst] at e0'
        have e2 : some (.inr y) = runS (stF N (names_checker_stmts_R N (N - 1))) (l.drop (j + 1)) y1.1 y1.2.1 (y1.2.2.2.2 ++ [((l.getD j nd0).s, (false, (l.getD j nd0).k == 9))]) y1.2.2.2.1 y1.2.2.1 := e0'
        have hcp := cntN_pos (l.getD j nd0)
        obtain ⟨res2, c1, c2⟩ := runS_sim (l.drop (j + 1)) (fun x hx => fs x (List.mem_of_mem_drop hx)) y1.1 y1.2.1 (y1.2.2.2.2 ++ [((l.getD j nd0).s, (false, (l.getD j nd0).k == 9))]) y1.2.2.2.1 y1.2.2.1 0 ⟨by simp only [List.length_append, List.length_singleton]; omega, by omega, by omega⟩
        rw [c1] at e2
        cases e2
        obtain ⟨-, c3⟩ := c2 y rfl
        have hself : labB (l.getD j nd0).s ((l.getD j nd0).s, (false, (l.getD j nd0).k == 9)) = true := by simp [labB, -List.getD_eq_getElem?_getD]
        obtain ⟨-, c4⟩ := c3 (l.getD j nd0).s (by rw [List.any_append]; simp only [List.any_cons, hself, Bool.true_or, Bool.or_true])
        have hfl : flt (l.getD j nd0).s (y1.2.2.2.2 ++ [((l.getD j nd0).s, (false, (l.getD j nd0).k == 9))]) = y1.2.2.2.2 := by
          have := flt_none hA
          simp only [flt] at this
          simp only [flt, List.filter_append, List.filter_cons, hself, Bool.not_true, Bool.false_eq_true, if_false, List.filter_nil, List.append_nil, this]
        rw [hfl] at c4
        exact c4

theorem left_j3 (w : Int) (hw : 0 ≤ w ∧ w ≤ 255) (hl0 : l.length ≠ 0) : bautalaw12_NamesLeft_j3 N w l = some true := by
  have hl := len_cntL l
  have e1 : IntKind.i64.wrap w = w := i64_in (by omega)
  have h0 := Int.tmod_nonneg (l.length : Int) hw.1
  have h1 := Int.tmod_lt_of_pos w (show (0 : Int) < (l.length : Int) by omega)
  obtain ⟨j, hj⟩ : ∃ j : Nat, w.tmod (l.length : Int) = (j : Int) := ⟨(w.tmod (l.length : Int)).toNat, by omega⟩
  have hjl : j < l.length := by omega
  obtain ⟨res, r1, r2⟩ := runS_sim l (f_sim N hN l hd hc hp) [] selM [] [] [] 0 ⟨by simp only [List.length_nil, Nat.zero_add]; omega, by simp only [List.length_nil, Nat.zero_add]; omega, by simp only [List.length_nil, Nat.zero_add]; omega⟩
  have ea := stmts_all N hN l hc
  rw [r1] at ea
  have hlv := lives_ok N (by omega)
  have hnz : (!decide ((l.length : Int) = 0)) = true := by rw [decide_eq_false (by omega)]; rfl
  have hin : inRange (j : Int) l.length = true := by rw [inRange_iff]; omega
  simp only [bautalaw12_NamesLeft_j3, bautalaw12_NamesLeft_j3_T, e1, hj, hnz, hin, toNat_nat, run_br, run_call, run_ret, if_true, check_is N ea, hlv, Option.bind_some]
  have main : (l.getD j nd0).k = 8 ∨ (l.getD j nd0).k = 9 → (if ((chk res).2.1 != 0) = true then some true else bautalaw12_NamesLeft_j7 N (j : Int) l (chk res).2.2.1 (chk res).2.2.2.1 (chk res).2.2.2.2) = some true := by
    intro hk
    cases res with
    | inl e => rfl
    | inr y =>
      obtain ⟨⟨s1, s2, s3⟩, -⟩ := r2 y rfl
      have hlo := left_out N hN l hd hc hp ea hjl hk
      have hck := check_is N hlo
      have hfl := flt_len (l.getD j nd0).s y.2.2.2.2
      have hg1 : (leI 0 (j : Int) && leI (j : Int) (l.length : Int)) = true := by rw [Bool.and_eq_true, leI_eq, leI_eq, decide_eq_true_eq, decide_eq_true_eq]; omega
      have hg2 : ltI ((0 + ((l.take j).length : Int)) * 88) 140737488355328 = true := by rw [ltI_eq, decide_eq_true_eq]; simp only [List.length_take]; omega
      have hg3 : (leI 0 ((j + 1 : Nat) : Int) && leI ((j + 1 : Nat) : Int) (l.length : Int)) = true := by rw [Bool.and_eq_true, leI_eq, leI_eq, decide_eq_true_eq, decide_eq_true_eq]; omega
      have hg4 : ltI ((((l.take j).length : Int) + ((l.drop (j + 1)).length : Int)) * 88) 140737488355328 = true := by rw [ltI_eq, decide_eq_true_eq]; simp only [List.length_take, List.length_drop]; omega
      show bautalaw12_NamesLeft_j7 N (j : Int) l y.2.2.1 y.2.2.2.1 y.2.2.2.2 = some true
      simp only [bautalaw12_NamesLeft_j7, bautalaw12_NamesLeft_j7_T, toNat_nat, i64_succ (i := j) (by omega), hg1, hg2, hg3, hg4, run_br, run_call, run_ret, if_true, hck, chk, want_is N (by omega) j l hjl y.2.2.2.2 (by omega), Option.bind_some, beq_self_eq_true,
        lab_refl N (by omega) (flt (l.getD j nd0).s y.2.2.2.2) (by omega), nam_refl N y.2.2.1 (by omega) hN, nam_refl N y.2.2.2.1 (by omega) hN, hlv]
  by_cases h8 : (l.getD j nd0).k = 8
  · have e8 : ((l.getD j nd0).k != 8) = false := by simp only [h8, bne_self_eq_false]
    rw [e8]
    simp only [Bool.false_eq_true, if_false]
    have := main (.inl h8)
    split at this
    · rename_i hc'; rw [if_pos hc']
    · rename_i hc'; rw [if_neg hc', this]; rfl
  · have e8 : ((l.getD j nd0).k != 8) = true := by simp only [bne_iff_ne, ne_eq]; exact h8
    rw [e8]
    simp only [if_true]
    by_cases h9 : (l.getD j nd0).k = 9
    · have e9 : ((l.getD j nd0).k != 9) = false := by simp only [h9, bne_self_eq_false]
      rw [e9]
      simp only [Bool.false_eq_true, if_false]
      have := main (.inr h9)
      split at this
      · rename_i hc'; rw [if_pos hc']
      · rename_i hc'; rw [if_neg hc', this]; rfl
    · have e9 : ((l.getD j nd0).k != 9) = true := by simp only [bne_iff_ne, ne_eq]; exact h9
      rw [e9]
      rfl
end

theorem namesLeft_N (N : Nat) (hN : 4294304001 < N) (x : Node) (hp : PB x) (w : Int) (hw : 0 ≤ w ∧ w ≤ 255) : bautalaw12_NamesLeft N x.k x.s x.n x.a x.l x.p w = some true := by
  obtain ⟨b, hb, h⟩ := small_is N (by omega) x
  simp only [bautalaw12_NamesLeft, bautalaw12_NamesLeft_T, run_call, run_br, run_ret, hb, Option.bind_some, lives_ok N (by omega)]
  cases b with
  | false => rfl
  | true =>
    obtain ⟨h1, h2⟩ := h rfl
    rw [cntN_eq] at h1
    rw [depN_eq] at h2
    by_cases hl : x.l.length = 0
    · have : ((x.l.length : Int) == 0) = true := by simp [hl]
      rw [this]; rfl
    · have : ((x.l.length : Int) == 0) = false := by simp only [beq_eq_false_iff_ne, ne_eq]; omega
      rw [this]
      simp only [Bool.not_true, Bool.false_eq_true, if_false, left_j3 N hN x.l (by omega) (by omega) hp.l w hw hl, Option.bind_some]
end Go.Proofs.YtfogafinohfpfaaGreatDoorV
