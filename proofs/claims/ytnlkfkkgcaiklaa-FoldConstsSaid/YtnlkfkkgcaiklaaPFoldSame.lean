/- The outputs' words are the same, whatever the inputs, and none is secret that was not. -/
import Derived.Test.YtnlkfkkgcaiklaaPFoldG
namespace Go.Proofs.YtnlkfkkgcaiklaaV
set_option linter.unusedVariables false
set_option linter.unusedSimpArgs false

theorem outv_pres (S P : List Int) {c d : List Gate × List GOut} (h : Pres c d) : outv S P d.1 d.2 = outv S P c.1 c.2 := by
  apply List.ext_getElem
  · simp [outv, h.len]
  · intro j h1 h2
    simp only [outv, List.length_map] at h1 h2
    have := (h.outs j h2).2.1 S P
    rw [getD_nat _ _ _ h1, getD_nat _ _ _ h2] at this
    simp only [outv, List.getElem_map]
    unfold Wat at this
    rw [this]

theorem same_l9 (N : Nat) {c d : List Gate × List GOut} (h : Pres c d) (hl : c.2.length ≤ 8000) (hc : ∀ j, j < c.2.length → 0 ≤ (c.2.getD j o0).2 ∧ (c.2.getD j o0).2 < c.1.length) (hd : ∀ j, j < d.2.length → 0 ≤ (d.2.getD j o0).2 ∧ (d.2.getD j o0).2 < d.1.length) (hN : 8001 < N) :
    bautalaw17_FoldSame_l9 N c.1 c.2 d.1 d.2 0 = some (.inr ()) := by
  unfold bautalaw17_FoldSame_l9
  refine loop_up (s := fun v => bautalaw17_FoldSame_l9_T N c.1 c.2 d.1 d.2 v) (fun i : Nat => (i : Int)) c.2.length _ (k := 0) (m := N) (by omega) (by omega) (fun i _ hi => ?_) ?_
  · obtain ⟨h1, _, h3⟩ := h.outs i hi
    have b1 := hc i hi
    have b2 := hd i (by rw [h.len]; exact hi)
    have c1 : ltI (i : Int) (c.2.length : Int) = true := by rw [ltI_eq, decide_eq_true_eq]; omega
    have c2 : inRange (i : Int) c.2.length = true := by rw [inRange_iff]; omega
    have c3 : inRange (i : Int) d.2.length = true := by rw [inRange_iff, h.len]; omega
    have c4 : inRange (c.2.getD i o0).2 c.1.length = true := by rw [inRange_iff]; exact b1
    have c5 : inRange (d.2.getD i o0).2 d.1.length = true := by rw [inRange_iff]; exact b2
    simp only [bautalaw17_FoldSame_l9_T, run_br, run_ret, c1, c2, c3, if_true, toNat_nat, i64_succ (i := i) (by omega)]
    rw [show (d.2.getD i (ByteArray.empty, 0)) = d.2.getD i o0 from rfl, show (c.2.getD i (ByteArray.empty, 0)) = c.2.getD i o0 from rfl, c4, c5, h1]
    have e1 : (d.1.getD (d.2.getD i o0).2.toNat (0, (0, (0, (0, false))))).2.2.2.2 = sec d.1 (d.2.getD i o0).2 := rfl
    have e2 : (c.1.getD (c.2.getD i o0).2.toNat (0, (0, (0, (0, false))))).2.2.2.2 = sec c.1 (c.2.getD i o0).2 := rfl
    rw [e1, e2]
    simp only [if_true, beq_self_eq_true, Bool.not_true, Bool.false_eq_true, if_false]
    cases hsd : sec d.1 (d.2.getD i o0).2 with
    | false => rfl
    | true => rw [h3 hsd]; rfl
  · have c1 : ltI (c.2.length : Int) (c.2.length : Int) = false := by rw [ltI_eq]; simp
    simp only [bautalaw17_FoldSame_l9_T, run_br, run_ret, c1, Bool.false_eq_true, if_false]

theorem foldSame_N (N : Nat) (hN : 24001 < N) (c : CircT) (h : WF circTy c) (S : List Int) (hS : WF (.list (.int .u32)) S) (P : List Int) (hP : WF (.list (.int .u32)) P) : bautalaw17_FoldSame N c.1 c.2.1 c.2.2.1 c.2.2.2 S P = some true := by
  obtain ⟨gs, s, p, os⟩ := c
  have hw : Wds gs := wds_of h.1
  have hwS := wdL_take (wdL_of hS) 100
  have hwP := wdL_take (wdL_of hP) 100
  simp only [bautalaw17_FoldSame, bautalaw17_FoldSame_T, run_call, run_br, run_ret, few_is, Option.bind_some, lives_is N hN, not_iffB, decide_eq_true_eq]
  by_cases hf : gs.length ≤ 400 ∧ os.length ≤ 100
  · rw [if_neg (not_not_intro hf)]
    obtain ⟨d, hd, h1, h2⟩ := circuit_is N gs s p os hw (by omega) (by omega) hN
    rw [own_is N gs os (by omega) (by omega), Option.bind_some, hd, Option.bind_some, plain_is N gs s p os hw (by omega) (by omega) (by omega), Option.bind_some]
    simp only [decide_eq_true_eq]
    by_cases hp : Lessens s p gs os
    · rw [if_neg (not_not_intro hp)]
      obtain ⟨q1, q2, q3, q4⟩ := h1 hp
      have hcd := q1.can
      have hcc := hp.1.1
      have hod : d.2.length = os.length := q2.len
      have hne : ¬ ((d.2.length : Int) != (os.length : Int)) = true := by rw [hod]; simp
      rw [if_neg hne, ref_can N d.1 s p d.2 q1.wd (by omega) (by omega) (by omega), Option.bind_some]
      simp only [hcd, decide_true, not_true_eq_false, if_false]
      have l9 := same_l9 N (c := (gs, os)) (d := d) q2 (by show os.length ≤ 8000; omega) hcc.2.2.2.2 hcd.2.2.2.2 (by omega)
      have hov := outv_pres (S.take 100) (P.take 100) q2
      have hsl : (outv (S.take 100) (P.take 100) gs os).length = os.length := by simp [outv]
      have hsame := sameL_refl N (outv (S.take 100) (P.take 100) gs os) (by omega) (by omega)
      simp only at hov l9
      simp only [bautalaw17_FoldSame_j8, bautalaw17_FoldSame_j8_T, run_call, l9, Option.bind_some, run_inr, short_is, outs_is N d.1 s p d.2 _ _ hwS hwP q1.wd (by omega) (by omega), outs_is N gs s p os _ _ hwS hwP hw (by omega) (by omega), hcd, hcc, if_true, hov, hsame, run_br, lives_is N hN, run_ret]
    · rw [if_pos hp, h2 hp, same_refl N gs s p os (by omega) (by omega) (by omega) (by omega)]
      simp only [Option.bind_some, if_true]
  · rw [if_pos hf]

theorem foldSame_law (c : CircT) (h : WF circTy c) (S : List Int) (hS : WF (.list (.int .u32)) S) (P : List Int) (hP : WF (.list (.int .u32)) P) : bautalaw17_FoldSame 30000 c.1 c.2.1 c.2.2.1 c.2.2.2 S P = some true := foldSame_N 30000 (by decide) c h S hS P hP
end Go.Proofs.YtnlkfkkgcaiklaaV
