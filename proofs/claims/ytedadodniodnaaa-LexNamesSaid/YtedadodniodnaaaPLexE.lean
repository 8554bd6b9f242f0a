/- The plain law LexNames. -/
import Derived.Test.YtedadodniodnaaaPLexD
namespace Go.Proofs.YtedadodniodnaaaV
set_option linter.unusedVariables false
set_option linter.unusedSimpArgs false

theorem rname_loop (N : Nat) (s : ByteArray) (hs : s.size ≤ 32) (hN : 1000 < N) : bautaref09_Name_j3 N s = some (decide (tw isInn (bs s) = (bs s).length)) := by
  have hl := bs_size s
  have key := loop_find (s := fun v => bautaref09_Name_l4_T N s v) (fun i : Nat => (i : Int)) (fun i => isInn ((bs s).getD i 0) = true) s.size (fun _ => .inl ()) (.inr ()) (m := N) (by omega) (fun i hi _ => ?_) (fun _ => ?_)
  · simp only [bautaref09_Name_j3, bautaref09_Name_j3_T, run_call, bautaref09_Name_l4]
    rw [show (0 : Int) = ((0 : Nat) : Int) from rfl]
    rcases key with ⟨h, e⟩ | ⟨i, hi, hp, _, e⟩
    · rw [e]
      simp only [Option.bind_some, run_inr, run_ret, Option.some.injEq]
      symm
      rw [decide_eq_true_iff]
      refine all_tw _ _ fun c hc => ?_
      obtain ⟨i, hi, rfl⟩ := List.mem_iff_getElem.1 hc
      have := h i (by omega)
      rw [getD_nat _ _ _ hi] at this
      exact this
    · rw [e]
      simp only [Option.bind_some, run_inl, run_ret, Option.some.injEq]
      symm
      rw [decide_eq_false_iff_not]
      intro hh
      refine hp (tw_all _ _ hh _ ?_)
      rw [getD_nat _ _ _ (by omega)]
      exact List.getElem_mem _
  · simp only [bautaref09_Name_l4_T, run_br, run_call, run_ret, ltI_iff, inRange_iff, toNat_nat, bAt_is, rletter_is, rnum_is, Option.bind_some]
    have hr : (0 : Int) ≤ (i : Int) ∧ (i : Int) < (s.size : Int) := by omega
    simp only [if_pos hr, if_pos hr.2, i64_succ (by omega : i < 9223372036854775807)]
    rw [show (95 : Int) = ((95 : Nat) : Int) from rfl, bnen]
    generalize (bs s).getD i 0 = c
    simp only [isInn]
    cases isLet c <;> cases isDig c <;> by_cases h : c.toNat = 95 <;> simp [h]
  · simp only [bautaref09_Name_l4_T, run_br, run_ret, ltI_iff]
    rw [if_neg (by omega)]

theorem rname_is (N : Nat) (s : ByteArray) (hN : 1000 < N) : bautaref09_Name N s = some (nameL (bs s)) := by
  have hl := bs_size s
  simp only [bautaref09_Name, bautaref09_Name_T, run_br, run_call, run_ret, nil_is, inRange_iff, bAt_is, rletter_is, Option.bind_some, ltI_iff, rword_is N hN, nameL]
  by_cases h0 : (bs s).isEmpty = true
  · rw [if_pos h0, h0]; rfl
  · have h0' : (bs s).isEmpty = false := Bool.eq_false_iff.2 h0
    have hp : 0 < s.size := by
      rw [hl]; cases hb : bs s with
      | nil => rw [hb] at h0; exact absurd rfl h0
      | cons => simp
    rw [if_neg h0, h0']
    by_cases h3 : (bs s).length ≤ 32
    · rw [if_neg (by omega), if_pos (by omega), decide_eq_true h3]
      by_cases h1 : isLet ((bs s).getD 0 0) = true
      · rw [if_neg (by rw [h1]; decide), h1]
        by_cases hw : isWordL (bs s) = true
        · rw [if_pos hw, hw]; simp
        · rw [if_neg hw, Bool.eq_false_iff.2 hw, rname_loop N s (by omega) hN]; simp
      · rw [if_pos (by rw [Bool.eq_false_iff.2 h1]; rfl), Bool.eq_false_iff.2 h1]; rfl
    · rw [if_pos (by omega), decide_eq_false h3]; simp

theorem lexNames_is (N : Nat) (s : ByteArray) (hs : s.size ≤ 4611686018427387904) (hN : s.size + 20030 < N) : bautalaw09_LexNames N s = some true := by
  simp only [bautalaw09_LexNames, bautalaw09_LexNames_T, run_br, run_call, run_ret, lex_Word, lex_Word_T, word_is N s hs, rword_is N (by omega), name_is N s hs (by omega), rname_is N s (by omega), lives_is N (by omega), Option.bind_some, BEq.rfl, if_true]
theorem lexNames_law (s : ByteArray) (h : WF .str s) (hs : s.size ≤ 140737488355328) : bautalaw09_LexNames 140737488400000 s = some true := lexNames_is 140737488400000 s (by omega) (by omega)
end Go.Proofs.YtedadodniodnaaaV
