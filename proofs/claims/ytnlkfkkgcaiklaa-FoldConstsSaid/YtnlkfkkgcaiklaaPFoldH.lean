/- What was made less stays as it is; nothing of no use is left; a circuit without inputs comes to constants. -/
import Derived.Test.YtnlkfkkgcaiklaaPFoldSame
namespace Go.Proofs.YtnlkfkkgcaiklaaV
set_option linter.unusedVariables false
set_option linter.unusedSimpArgs false

theorem less_of {s p : Int} {d : List Gate × List GOut} (h : Pl s p d) : Lessens s p d.1 d.2 := ⟨⟨h.can, h.few⟩, h.nd⟩

theorem fix_at (N : Nat) {s p : Int} {d : List Gate × List GOut} (h : Pl s p d) (he : onceG d = d) (ho : d.2.length ≤ 8000) (hN : 24001 < N) : fold_Circuit N d.1 s p d.2 = some d := by
  have hl := h.can.2.2.1
  have hon := once_is N h ho (by omega)
  have heq := equal_is N d.1 d.1 (by omega) (by omega)
  have hl3 : fold_Circuit_l3 N (d.1, d.2) = some d := by
    unfold fold_Circuit_l3
    refine loop_stop (by omega) ?_
    simp only [fold_Circuit_l3_T, run_call, hon, he, Option.bind_some, heq, run_br, run_ret, decide_true, if_true]
  simp only [fold_Circuit, fold_Circuit_T, run_call, run_br, run_ret, real_plain N d.1 s p d.2 h.wd (by omega) ho (by omega) (by omega), Option.bind_some, twice_is N d.1 hl (by omega), not_iffB, decide_eq_true_eq]
  rw [if_neg (not_not_intro ⟨h.can, h.few⟩), if_neg (not_not_intro h.nd)]
  simp only [fold_Circuit_j3, fold_Circuit_j3_T, run_call, hl3, Option.bind_some, run_ret]

/-! ### Again -/
theorem foldAgain_N (N : Nat) (hN : 24001 < N) (c : CircT) (h : WF circTy c) : bautalaw17_FoldAgain N c.1 c.2.1 c.2.2.1 c.2.2.2 = some true := by
  obtain ⟨gs, s, p, os⟩ := c
  have hw : Wds gs := wds_of h.1
  simp only [bautalaw17_FoldAgain, bautalaw17_FoldAgain_T, run_call, run_br, run_ret, few_is, Option.bind_some, lives_is N hN, not_iffB, decide_eq_true_eq]
  by_cases hf : gs.length ≤ 400 ∧ os.length ≤ 100
  · rw [if_neg (not_not_intro hf)]
    obtain ⟨d, hd, h1, h2⟩ := circuit_is N gs s p os hw (by omega) (by omega) hN
    have hdd : fold_Circuit N d.1 s p d.2 = some d ∧ d.1.length ≤ 8000 ∧ d.2.length ≤ 8000 := by
      by_cases hp : Lessens s p gs os
      · obtain ⟨q1, q2, q3, q4⟩ := h1 hp
        have hdl : d.2.length = os.length := q2.len
        exact ⟨fix_at N q1 q3 (by omega) hN, q1.can.2.2.1, by omega⟩
      · have e := h2 hp
        subst e
        exact ⟨hd, by simp only; omega, by simp only; omega⟩
    obtain ⟨e1, e2, e3⟩ := hdd
    rw [own_is N gs os (by omega) (by omega)]
    simp only [hd, Option.bind_some, own_is N d.1 d.2 (by omega) (by omega), e1, same_refl N d.1 s p d.2 (by omega) (by omega) (by omega) (by omega), if_true]
  · rw [if_pos hf]

theorem foldAgain_law (c : CircT) (h : WF circTy c) : bautalaw17_FoldAgain 30000 c.1 c.2.1 c.2.2.1 c.2.2.2 = some true := foldAgain_N 30000 (by decide) c h

/-! ### Nothing of no use -/
theorem ref_used (N : Nat) {gs : List Gate} {os : List GOut} {s p : Int} (hc : AllOK gs s p) (hl : gs.length ≤ 8000) (ho : ∀ j, j < os.length → 0 ≤ (os.getD j o0).2 ∧ (os.getD j o0).2 < gs.length) (hol : os.length ≤ 8000) (hN : 8001 < N) :
    bautaref17_Used N gs os = some (usedG gs os) := by
  have l3 : bautaref17_Used_l3 N os (0, List.replicate gs.length false) = some (marks gs.length os) := by
    unfold bautaref17_Used_l3
    have := loop_up (s := fun v => bautaref17_Used_l3_T N os v.1 v.2) (fun i : Nat => ((i : Int), (marks gs.length (os.take i)))) os.length (marks gs.length os) (k := 0) (m := N) (by omega) (by omega) (fun i _ hi => ?_) ?_
    · exact this
    · have hb := ho i hi
      have hg : os.getD i o0 = os[i] := getD_nat _ _ _ hi
      have em : marks gs.length (os.take (i + 1)) = (marks gs.length (os.take i)).set os[i].2.toNat true := by
        rw [marks, take_snoc _ hi, List.foldl_append]; rfl
      have c1 : ltI (i : Int) (os.length : Int) = true := by rw [ltI_eq, decide_eq_true_eq]; omega
      have c2 : inRange (i : Int) os.length = true := by rw [inRange_iff]; omega
      rw [hg] at hb
      have c3 : inRange os[i].2 (marks gs.length (os.take i)).length = true := by rw [inRange_iff, marks_len]; exact hb
      simp only [bautaref17_Used_l3_T, run_br, run_ret, c1, c2, if_true, toNat_nat, i64_succ (i := i) (by omega), em]
      rw [show (os.getD i (ByteArray.empty, 0)) = os.getD i o0 from rfl, hg, c3]
      rfl
    · have c1 : ltI (os.length : Int) (os.length : Int) = false := by rw [ltI_eq]; simp
      simp only [bautaref17_Used_l3_T, run_br, run_ret, c1, Bool.false_eq_true, if_false, List.take_length]
  have rnd : ∀ (i : Nat) (u : List Bool), i < gs.length → u.length = gs.length → (bautaref17_Used_l7_T N gs i u).run some = some (.inl ((i : Int) - 1, ustep gs i u)) := by
    intro i u hi hu
    have hok := hc i hi
    have c1 : leI 0 (i : Int) = true := by rw [leI_eq, decide_eq_true_eq]; omega
    have c2 : inRange (i : Int) gs.length = true := by rw [inRange_iff]; omega
    have c3 : inRange (i : Int) u.length = true := by rw [inRange_iff]; omega
    have e2 : IntKind.i64.wrap ((i : Int) - 1) = (i : Int) - 1 := i64_in (by omega)
    simp only [bautaref17_Used_l7_T, run_br, run_call, run_ret, c1, c2, c3, if_true, toNat_nat, e2, beq_iffI]
    rw [show (gs.getD i (0, (0, (0, (0, false))))) = gs.getD i g0 from rfl]
    unfold ustep
    simp only
    generalize gs.getD i g0 = g at *
    obtain ⟨k, a, b, n, c⟩ := g
    obtain ⟨hk, h0, h0', h1, h2, hn, hcc⟩ := hok
    simp only at hk h0 h0' h1 h2 hn hcc ⊢
    have j14 : ∀ v : List Bool, v.length = gs.length → bautaref17_Used_j14 N i v k b = some (if v.getD i false = true ∧ 2 ≤ takes k then v.set b.toNat true else v) := by
      intro v hv
      have c4 : inRange (i : Int) v.length = true := by rw [inRange_iff]; omega
      simp only [bautaref17_Used_j14, bautaref17_Used_j14_T, run_br, run_call, run_ret, c4, if_true, toNat_nat, ref_takes, Option.bind_some, ltI_iff, inRange_iff]
      by_cases hu : v.getD i false = true
      · rw [if_pos hu]
        by_cases h2' : 1 < takes k
        · have := h2 (by omega)
          rw [if_pos h2', if_pos (by omega), if_pos ⟨hu, by omega⟩]
        · rw [if_neg h2', if_neg (fun h => absurd h.2 (by omega))]
      · rw [if_neg hu, if_neg (fun h => hu h.1)]
    have key : ∀ v : List Bool, v.length = gs.length → bautaref17_Used_j12 N i v k a b = some (if v.getD i false = true then (if 2 ≤ takes k then (if 1 ≤ takes k then v.set a.toNat true else v).set b.toNat true else (if 1 ≤ takes k then v.set a.toNat true else v)) else v) := by
      intro v hv
      have c4 : inRange (i : Int) v.length = true := by rw [inRange_iff]; omega
      simp only [bautaref17_Used_j12, bautaref17_Used_j12_T, run_br, run_call, run_ret, c4, if_true, toNat_nat, ref_takes, Option.bind_some, ltI_iff]
      by_cases hvi : v.getD i false = true
      · rw [if_pos hvi, if_pos hvi]
        have hset : (v.set a.toNat true).getD i false = true := set_mono hvi (fun _ => rfl)
        by_cases h1' : 0 < takes k
        · have hra : inRange a v.length = true := by have := h1 (by omega); rw [inRange_iff]; omega
          rw [if_pos h1', hra, if_pos rfl, j14 _ (by rw [List.length_set]; exact hv), Option.bind_some, if_pos (show 1 ≤ takes k by omega)]
          by_cases h2' : 2 ≤ takes k
          · rw [if_pos ⟨hset, h2'⟩, if_pos h2']
          · rw [if_neg (fun h => h2' h.2), if_neg h2']
        · rw [if_neg h1', j14 _ hv, Option.bind_some, if_neg (fun h => absurd h.2 (by omega)), if_neg (show ¬ 2 ≤ takes k by omega), if_neg (show ¬ 1 ≤ takes k by omega)]
      · rw [if_neg hvi, if_neg hvi, j14 _ hv, Option.bind_some, if_neg (fun h => hvi h.1)]
    have hset0 : ∀ v : List Bool, i < v.length → v.set i (v.getD i false || false) = v := by
      intro v hv
      rw [Bool.or_false, getD_nat _ _ _ hv]
      exact List.set_getElem_self hv
    by_cases hk1 : k = 1
    · have hii : isIn (k, a, b, n, c) = true := by simp [isIn, hk1]
      rw [if_pos hk1, key _ (by rw [List.length_set]; exact hu), Option.bind_some, hii, Bool.or_true]
    · by_cases hk2 : k = 2
      · have hii : isIn (k, a, b, n, c) = true := by simp [isIn, hk2]
        rw [if_neg hk1, if_pos hk2, key _ (by rw [List.length_set]; exact hu), Option.bind_some, hii, Bool.or_true]
      · have hii : isIn (k, a, b, n, c) = false := by simp [isIn, hk1, hk2]
        rw [if_neg hk1, if_neg hk2, key _ hu, Option.bind_some, hii, hset0 u (by omega)]
  have l7 : ∀ (u : List Bool), u.length = gs.length → bautaref17_Used_l7 N gs ((gs.length : Int) - 1, u) = some (ugo gs gs.length u) := by
    intro u hu
    unfold bautaref17_Used_l7
    refine loop_st (s := fun v => bautaref17_Used_l7_T N gs v.1 v.2) (fun x : Nat × List Bool => ((x.1 : Int) - 1, x.2)) (fun x => x.1) (fun x => x.1 ≤ gs.length ∧ x.2.length = gs.length) (fun x => ugo gs x.1 x.2) (fun x hx => ?_) N (gs.length, u) ⟨Nat.le_refl _, hu⟩ (by simp only; omega)
    obtain ⟨i, v⟩ := x
    obtain ⟨hi, hv⟩ := hx
    simp only at hi hv ⊢
    cases i with
    | zero => exact .inr rfl
    | succ i =>
      refine .inl ⟨(i, ustep gs i v), ?_, ⟨by simp only; omega, by simp only [ustep_len]; exact hv⟩, by simp only; omega, rfl⟩
      have e1 : (((i + 1 : Nat) : Int) - 1) = (i : Int) := by omega
      rw [e1, rnd i v (by omega) hv]
  have e1 : IntKind.i64.wrap ((gs.length : Int) - 1) = (gs.length : Int) - 1 := i64_in (by omega)
  have c1 : (leI 0 (gs.length : Int) && (leI (gs.length : Int) gs.length && (ltI ((gs.length : Int) * 1) 140737488355328 && ltI (gs.length : Int) 140737488355328))) = true := by
    simp only [Bool.and_eq_true, leI_eq, ltI_eq, decide_eq_true_eq]; omega
  simp only [bautaref17_Used, bautaref17_Used_T, run_br, run_call, run_ret, c1, if_true, toNat_nat, l3, e1, l7 _ (marks_len _ _), Option.bind_some]
  rfl

theorem dead_none (N : Nat) (u : List Bool) (h : ∀ j, j < u.length → u.getD j false = true) (hl : u.length ≤ 8000) (hN : 8001 < N) : bautaref17_Dead_l6 N u (0, []) = some [] := by
  unfold bautaref17_Dead_l6
  refine loop_up (s := fun v => bautaref17_Dead_l6_T N u v.1 v.2) (fun i : Nat => ((i : Int), [])) u.length [] (k := 0) (m := N) (by omega) (by omega) (fun i _ hi => ?_) ?_
  · have c1 : ltI (i : Int) (u.length : Int) = true := by rw [ltI_eq, decide_eq_true_eq]; omega
    have c2 : inRange (i : Int) u.length = true := by rw [inRange_iff]; omega
    simp only [bautaref17_Dead_l6_T, run_br, run_ret, c1, c2, if_true, toNat_nat, h i hi, Bool.not_true, Bool.false_eq_true, if_false, i64_succ (i := i) (by omega)]
  · have c1 : ltI (u.length : Int) (u.length : Int) = false := by rw [ltI_eq]; simp
    simp only [bautaref17_Dead_l6_T, run_br, run_ret, c1, Bool.false_eq_true, if_false]

theorem alike_is (N : Nat) (x y : Gate) : bautaref17_alike N x.1 x.2.1 x.2.2.1 x.2.2.2.1 y.1 y.2.1 y.2.2.1 y.2.2.2.1 = some (decide (kg x = kg y)) := by
  obtain ⟨k, a, b, n, c⟩ := x
  obtain ⟨k', a', b', n', c'⟩ := y
  simp only [bautaref17_alike, bautaref17_alike_T, run_br, run_call, run_ret, bne_iffI]
  by_cases hk : k = k'
  · subst hk
    by_cases hn : n = n'
    · subst hn
      rw [if_neg (by simp), if_neg (by simp)]
      simp only [bautaref17_alike_j3, bautaref17_alike_j3_T, run_br, run_ret, beq_iffI]
      have hd : (kg (k, a, b, n, c) = kg (k, a', b', n, c')) ↔ ((a = a' ∧ b = b') ∨ ((k = 3 ∨ k = 4) ∧ a = b' ∧ b = a')) := by
        constructor
        · intro h; exact (keyG_inv h).2.2
        · rintro (⟨rfl, rfl⟩ | ⟨hk, rfl, rfl⟩)
          · rfl
          · show keyG k a b n = keyG k b a n
            unfold keyG
            by_cases h1 : b < a
            · rw [if_pos ⟨hk, h1⟩, if_neg (by omega)]
            · by_cases h2 : a < b
              · rw [if_neg (by omega), if_pos ⟨hk, h2⟩]
              · obtain rfl : a = b := by omega
                rfl
      have hd2 : decide (kg (k, a, b, n, c) = kg (k, a', b', n, c')) = decide ((a = a' ∧ b = b') ∨ ((k = 3 ∨ k = 4) ∧ a = b' ∧ b = a')) := decide_eq_decide.2 hd
      rw [hd2]
      by_cases h1 : a = a' <;> by_cases h2 : b = b' <;> by_cases h3 : k = 3 <;> by_cases h4 : k = 4 <;> by_cases h5 : a = b' <;> by_cases h6 : b = a' <;> simp only [h1, h2, h3, h4, h5, h6, if_true, if_false, Option.bind_some, beq_self_eq_true, true_and, and_true, true_or, or_true, false_and, and_false, or_false, false_or, decide_true, decide_false, and_self, or_self] <;> simp_all
    · rw [if_neg (by simp), if_pos hn]
      have : ¬ kg (k, a, b, n, c) = kg (k, a', b', n', c') := fun h => hn (keyG_inv h).2.1
      simp [this]
  · rw [if_pos hk]
    have : ¬ kg (k, a, b, n, c) = kg (k', a', b', n', c') := fun h => hk (keyG_inv h).1
    simp [this]

theorem alike_none (N : Nat) (gs : List Gate) (h : (gs.map kg).Nodup) (hl : gs.length ≤ 8000) (hN : 8001 < N) : bautaref17_Alike N gs = some false := by
  have hne : ∀ i k, i < gs.length → k < i → ¬ kg (gs.getD i g0) = kg (gs.getD k g0) := by
    intro i k hi hk he
    have hp := List.pairwise_iff_getElem.1 h k i (by simp; omega) (by simp; omega) hk
    simp only [List.getElem_map] at hp
    rw [getD_nat _ _ _ hi, getD_nat _ _ _ (by omega : k < gs.length)] at he
    exact hp he.symm
  have l5 : ∀ i : Nat, i < gs.length → bautaref17_Alike_l5 N i gs 0 = some (.inr ()) := by
    intro i hi
    unfold bautaref17_Alike_l5
    refine loop_up (s := fun v => bautaref17_Alike_l5_T N i gs v) (fun k : Nat => (k : Int)) i _ (k := 0) (m := N) (by omega) (by omega) (fun k _ hk => ?_) ?_
    · have c1 : ltI (k : Int) (i : Int) = true := by rw [ltI_eq, decide_eq_true_eq]; omega
      have c2 : inRange (i : Int) gs.length = true := by rw [inRange_iff]; omega
      have c3 : inRange (k : Int) gs.length = true := by rw [inRange_iff]; omega
      simp only [bautaref17_Alike_l5_T, run_br, run_call, run_ret, c1, c2, c3, if_true, toNat_nat, i64_succ (i := k) (by omega)]
      rw [show (gs.getD i (0, (0, (0, (0, false))))) = gs.getD i g0 from rfl, show (gs.getD k (0, (0, (0, (0, false))))) = gs.getD k g0 from rfl, alike_is, Option.bind_some, decide_eq_false (hne i k hi hk)]
      rfl
    · have c1 : ltI (i : Int) (i : Int) = false := by rw [ltI_eq]; simp
      simp only [bautaref17_Alike_l5_T, run_br, run_ret, c1, Bool.false_eq_true, if_false]
  have l2 : bautaref17_Alike_l2 N gs 0 = some (.inr ()) := by
    unfold bautaref17_Alike_l2
    refine loop_up (s := fun v => bautaref17_Alike_l2_T N gs v) (fun k : Nat => (k : Int)) gs.length _ (k := 0) (m := N) (by omega) (by omega) (fun i _ hi => ?_) ?_
    · have c1 : ltI (i : Int) (gs.length : Int) = true := by rw [ltI_eq, decide_eq_true_eq]; omega
      simp only [bautaref17_Alike_l2_T, run_br, run_call, run_ret, c1, if_true, l5 i hi, Option.bind_some, run_inr, i64_succ (i := i) (by omega)]
    · have c1 : ltI (gs.length : Int) (gs.length : Int) = false := by rw [ltI_eq]; simp
      simp only [bautaref17_Alike_l2_T, run_br, run_ret, c1, Bool.false_eq_true, if_false]
  simp only [bautaref17_Alike, bautaref17_Alike_T, run_call, l2, Option.bind_some, run_inr, run_ret]

theorem cst_take {gs : List Gate} {x : Int} {i : Nat} (h : 0 ≤ x ∧ x < i) : cst (gs.take i) x = cst gs x ∧ num (gs.take i) x = num gs x ∧ gat (gs.take i) x = gat gs x := by
  have e : gat (gs.take i) x = gat gs x := by unfold gat; exact getD_take _ _ (by omega)
  exact ⟨by unfold cst; rw [e], by unfold num; rw [e], e⟩

theorem least_l4 (N : Nat) {s p : Int} {d : List Gate × List GOut} (h : Pl s p d) (hL : LeastC d) (hN : 8001 < N) : bautaref17_Least_l4 N d.1 0 = some (.inr ()) := by
  obtain ⟨gs, os⟩ := d
  have hl := h.can.2.2.1
  have hok := h.can.2.2.2.1
  have hf := h.few
  have hnf := hL.nf
  simp only at hl hok hf hnf ⊢
  have cb : ∀ (x : Int) (b : Bool), 0 ≤ x ∧ x < (gs.length : Int) → bautaref17_constant N gs x b = some (cst gs x && (!b || decide (num gs x = 0 ∨ num gs x = 4294967295))) := by
    intro x b hx
    have c2 : inRange x gs.length = true := by rw [inRange_iff]; exact hx
    simp only [bautaref17_constant, bautaref17_constant_T, run_br, run_ret, c2, if_true, beq_iffI]
    rw [show (gs.getD x.toNat (0, (0, (0, (0, false))))) = gat gs x from rfl]
    have hn : (gat gs x).2.2.2.1 = num gs x := rfl
    rw [hn]
    by_cases h0 : (gat gs x).1 = 0
    · have hc : cst gs x = true := by simp [cst, h0]
      rw [if_pos h0, hc]
      cases b
      · rfl
      · by_cases h1 : num gs x = 0
        · simp [h1]
        · simp [h1]; exact Bool.beq_eq_decide_eq _ _
    · have hc : cst gs x = false := by simp [cst, h0]
      rw [if_neg h0, hc]
      rfl
  unfold bautaref17_Least_l4
  refine loop_up (s := fun v => bautaref17_Least_l4_T N gs v) (fun k : Nat => (k : Int)) gs.length _ (k := 0) (m := N) (by omega) (by omega) (fun i _ hi => ?_) ?_
  · have hoki := hok i hi
    have hfi := hf i hi
    have hni := hnf i hi
    have c1 : ltI (i : Int) (gs.length : Int) = true := by rw [ltI_eq, decide_eq_true_eq]; omega
    have c2 : inRange (i : Int) gs.length = true := by rw [inRange_iff]; omega
    have hg : gs.getD i g0 = gs[i] := getD_nat _ _ _ hi
    rw [hg] at hoki hfi
    simp only [bautaref17_Least_l4_T, run_br, run_call, run_ret, c1, c2, if_true, toNat_nat, i64_succ (i := i) (by omega), leI_iff, ltI_iff, beq_iffI]
    rw [show (gs.getD i (0, (0, (0, (0, false))))) = gs.getD i g0 from rfl, hg]
    generalize gs[i] = g at *
    obtain ⟨k, a, b, n, c⟩ := g
    obtain ⟨hk, h0, h0', h1, h2, hn, hcc⟩ := hoki
    obtain ⟨n1, n2, n3⟩ := hni
    simp only at hk h0 h0' h1 h2 hn hcc hfi n1 n2 n3 ⊢
    have j9 : bautaref17_Least_j9 N gs k a b = some (.inr ()) := by
      simp only [bautaref17_Least_j9, bautaref17_Least_j9_T, run_br, run_call, run_ret, beq_iffI]
      have main : (k = 3 ∨ k = 4) → ¬ a = b ∧ bautaref17_constant N gs a true = some false ∧ bautaref17_constant N gs b true = some false ∧ ∃ x y, bautaref17_constant N gs a false = some x ∧ bautaref17_constant N gs b false = some y ∧ ¬ (x = true ∧ y = true) := by
        intro hkk
        have ht : takes k = 2 := by rcases hkk with rfl | rfl <;> rfl
        have ha := h1 (by omega)
        have hb := h2 (by omega)
        obtain ⟨m1, m2, m3, m4⟩ := n3 hkk
        rw [(cst_take ha).1, (cst_take ha).2.1] at m2
        rw [(cst_take hb).1, (cst_take hb).2.1] at m3
        rw [(cst_take ha).1, (cst_take hb).1] at m4
        refine ⟨m1, ?_, ?_, _, _, cb a false (by omega), cb b false (by omega), ?_⟩
        · rw [cb a true (by omega)]
          congr 1
          cases hca : cst gs a
          · rfl
          · simp only [Bool.not_true, Bool.false_or, Bool.true_and, decide_eq_false_iff_not]
            exact fun hh => m2 ⟨hca, hh⟩
        · rw [cb b true (by omega)]
          congr 1
          cases hcb : cst gs b
          · rfl
          · simp only [Bool.not_true, Bool.false_or, Bool.true_and, decide_eq_false_iff_not]
            exact fun hh => m3 ⟨hcb, hh⟩
        · simp only [Bool.not_false, Bool.true_or, Bool.and_true]
          exact m4
      by_cases h3 : k = 3
      · obtain ⟨m1, m2, m3, x, y, m4, m5, m6⟩ := main (.inl h3)
        rw [if_pos h3, if_neg m1, m2, Option.bind_some, if_neg (by simp), m3, Option.bind_some, if_neg (by simp), m4, Option.bind_some]
        cases x
        · rfl
        · rw [if_pos rfl, m5, Option.bind_some]
          cases y
          · rfl
          · exact absurd ⟨rfl, rfl⟩ m6
      · by_cases h4 : k = 4
        · obtain ⟨m1, m2, m3, x, y, m4, m5, m6⟩ := main (.inr h4)
          rw [if_neg h3, if_pos h4, if_neg m1, m2, Option.bind_some, if_neg (by simp), m3, Option.bind_some, if_neg (by simp), m4, Option.bind_some]
          cases x
          · rfl
          · rw [if_pos rfl, m5, Option.bind_some]
            cases y
            · rfl
            · exact absurd ⟨rfl, rfl⟩ m6
        · rw [if_neg h3, if_neg h4]
    by_cases h5 : 5 ≤ k
    · have ht : takes k = 1 := by unfold takes; grind
      have ha := h1 (by omega)
      have hca : cst gs a = false := by
        rw [← (cst_take ha).1]
        by_cases hk5 : k = 5
        · exact (n1 hk5).1
        · exact (n2 (by omega)).1
      rw [if_pos h5, cb a false (by omega), hca, Option.bind_some, if_neg (by simp)]
      have c3 : inRange a gs.length = true := by rw [inRange_iff]; omega
      by_cases hk5 : k = 5
      · have hg5 : ¬ (gs.getD a.toNat (0, (0, (0, (0, false))))).1 = 5 := by
          have := (n1 hk5).2
          rw [(cst_take ha).2.2] at this
          exact this
        rw [if_pos hk5, if_pos c3, if_neg hg5, if_neg (by omega), j9]
        rfl
      · rw [if_neg hk5, if_pos (by omega), if_neg (n2 (by omega)).2, j9]
        rfl
    · rw [if_neg h5, j9]
      rfl
  · have c1 : ltI (gs.length : Int) (gs.length : Int) = false := by rw [ltI_eq]; simp
    simp only [bautaref17_Least_l4_T, run_br, run_ret, c1, Bool.false_eq_true, if_false]

theorem least_is (N : Nat) {s p : Int} {d : List Gate × List GOut} (h : Pl s p d) (hL : LeastC d) (ho : d.2.length ≤ 8000) (hN : 8001 < N) : bautaref17_Least N d.1 s p d.2 = some true := by
  have hl := h.can.2.2.1
  have hu := ref_used N h.can.2.2.2.1 hl h.can.2.2.2.2 ho hN
  have hd := dead_none N (usedG d.1 d.2) (fun j hj => hL.used j (by rw [used_len] at hj; exact hj)) (by rw [used_len]; exact hl) hN
  simp only [bautaref17_Least, bautaref17_Least_T, bautaref17_Least_j3, bautaref17_Least_j3_T, bautaref17_Dead, bautaref17_Dead_T, run_call, run_br, run_ret, ref_plain N d.1 s p d.2 h.wd (by omega) ho (by omega) (by omega), ref_can N d.1 s p d.2 h.wd (by omega) (by omega) (by omega), Option.bind_some, not_iffB, decide_eq_true_eq, hu, hd, alike_none N d.1 hL.kd hl hN, least_l4 N h hL hN]
  rw [if_neg (not_not_intro ⟨h.can, h.few⟩), if_neg (not_not_intro h.can)]
  rfl

theorem least_l8 (N : Nat) (l : List Gate) (hl : l.length ≤ 8000) (hN : 8001 < N) : bautalaw17_FoldLeast_l8 N l l 0 = some (.inr ()) := by
  unfold bautalaw17_FoldLeast_l8
  refine loop_up (s := fun v => bautalaw17_FoldLeast_l8_T N l l v) (fun k : Nat => (k : Int)) l.length _ (k := 0) (m := N) (by omega) (by omega) (fun i _ hi => ?_) ?_
  · have c1 : ltI (i : Int) (l.length : Int) = true := by rw [ltI_eq, decide_eq_true_eq]; omega
    have c2 : inRange (i : Int) l.length = true := by rw [inRange_iff]; omega
    simp only [bautalaw17_FoldLeast_l8_T, run_br, run_ret, c1, c2, if_true, toNat_nat, i64_succ (i := i) (by omega), beq_self_eq_true, Bool.and_self, Bool.not_true, Bool.false_eq_true, if_false]
  · have c1 : ltI (l.length : Int) (l.length : Int) = false := by rw [ltI_eq]; simp
    simp only [bautalaw17_FoldLeast_l8_T, run_br, run_ret, c1, Bool.false_eq_true, if_false]

theorem foldLeast_N (N : Nat) (hN : 24001 < N) (c : CircT) (h : WF circTy c) : bautalaw17_FoldLeast N c.1 c.2.1 c.2.2.1 c.2.2.2 = some true := by
  obtain ⟨gs, s, p, os⟩ := c
  have hw : Wds gs := wds_of h.1
  simp only [bautalaw17_FoldLeast, bautalaw17_FoldLeast_T, run_call, run_br, run_ret, few_is, Option.bind_some, lives_is N hN, not_iffB, decide_eq_true_eq]
  by_cases hf : gs.length ≤ 400 ∧ os.length ≤ 100
  · rw [if_neg (not_not_intro hf), plain_is N gs s p os hw (by omega) (by omega) (by omega), Option.bind_some]
    simp only [decide_eq_true_eq]
    by_cases hp : Lessens s p gs os
    · rw [if_neg (not_not_intro hp)]
      obtain ⟨d, hd, h1, _⟩ := circuit_is N gs s p os hw (by omega) (by omega) hN
      obtain ⟨q1, q2, q3, q4⟩ := h1 hp
      have hol : d.2.length = os.length := q2.len
      have hgl : d.1.length ≤ gs.length := q2.gl
      have hin : inps d.1 = inps gs := q2.inp
      have hil : (inps gs).length ≤ 8000 := by
        have := List.length_filter_le isIn gs
        unfold inps; omega
      have c1 : ltI (IntKind.i64.wrap ((gs.length : Int) + (os.length : Int))) (d.1.length : Int) = false := by
        rw [i64_in (by omega), ltI_eq]; simp; omega
      simp only [bautalaw17_FoldLeast_j3, bautalaw17_FoldLeast_j3_T, bautalaw17_FoldLeast_j7, bautalaw17_FoldLeast_j7_T, run_call, run_br, run_ret, own_is N gs os (by omega) (by omega), hd, inputs_is N gs (by omega) (by omega), inputs_is N d.1 (by omega) (by omega), Option.bind_some,
        least_is N q1 q4 (by omega) (by omega), c1, hin, Bool.not_true, Bool.false_eq_true, if_false, bne_self_eq_false, least_l8 N (inps gs) hil (by omega), run_inr, lives_is N hN]
    · rw [if_pos hp]
  · rw [if_pos hf]

theorem foldLeast_law (c : CircT) (h : WF circTy c) : bautalaw17_FoldLeast 30000 c.1 c.2.1 c.2.2.1 c.2.2.2 = some true := foldLeast_N 30000 (by decide) c h
end Go.Proofs.YtnlkfkkgcaiklaaV
