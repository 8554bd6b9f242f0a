/- What words a circuit's gates have: the program's function. -/
import Derived.Test.YtgajjcehnpaooaaGreatDoorPWords
namespace Go.Proofs.YtgajjcehnpaooaaGreatDoorV
set_option linter.unusedVariables false
set_option linter.unusedSimpArgs false

theorem ev_congr {S P : List Int} {k n : Int} {a b a' b' : BitVec 32} (hk : 0 ≤ k ∧ k ≤ 11) (h1 : 1 ≤ takes k → a = a') (h2 : 2 ≤ takes k → b = b') : ev S P k a b n = ev S P k a' b' n := by
  rcases kinds hk with rfl | rfl | rfl | rfl | rfl | rfl | rfl | rfl | rfl | rfl | rfl | rfl
  · rfl
  · rfl
  · rfl
  all_goals first
    | (rw [h1 (by decide), h2 (by decide)])
    | (rw [h1 (by decide)]; rfl)

theorem rot_repeat (a : BitVec 32) : ∀ s, s < 32 → Nat.repeat (fun z : BitVec 32 => z.rotateLeft 1) s a = a.rotateLeft s
  | 0, _ => by
    apply BitVec.eq_of_getLsbD_eq
    intro i hi
    rw [BitVec.getLsbD_rotateLeft]
    simp [Nat.repeat, hi]
  | s + 1, h => by
    rw [Nat.repeat, rot_repeat a s (by omega)]
    apply BitVec.eq_of_getLsbD_eq
    intro i hi
    simp only [BitVec.getLsbD_rotateLeft, show s % 32 = s from Nat.mod_eq_of_lt (by omega), show (s + 1) % 32 = s + 1 from Nat.mod_eq_of_lt h, show 1 % 32 = 1 from rfl]
    by_cases h1 : i < 1
    · simp only [h1, decide_true, cond_true, show i < s + 1 by omega]
      by_cases h2 : 32 - 1 + i < s
      · omega
      · simp only [h2, decide_false, cond_false, show 32 - 1 + i < 32 by omega, decide_true, Bool.true_and]
        congr 1; omega
    · simp only [h1, decide_false, cond_false, hi, decide_true, Bool.true_and]
      by_cases h2 : i - 1 < s
      · simp only [h2, show i < s + 1 by omega, decide_true, cond_true]
        congr 1; omega
      · simp only [h2, show ¬ i < s + 1 by omega, decide_false, cond_false, show i - 1 < 32 by omega, decide_true, Bool.true_and]
        congr 1; omega

theorem shl_wrap (a : BitVec 32) (s : Nat) : IntKind.u32.wrap ((a.toNat : Int) * 2 ^ s) = ((a <<< s).toNat : Int) := by
  rw [IntKind.wrap_u32, BitVec.toNat_shiftLeft, Nat.shiftLeft_eq]
  have : ((a.toNat : Int) * 2 ^ s) = ((a.toNat * 2 ^ s : Nat) : Int) := by simp
  rw [this]
  omega
theorem shr_div (a : BitVec 32) (s : Nat) : (a.toNat : Int).fdiv (2 ^ s) = ((a >>> s).toNat : Int) := by
  rw [BitVec.toNat_ushiftRight, Nat.shiftRight_eq_div_pow, Int.fdiv_eq_ediv_of_nonneg _ (by have : (0 : Int) ≤ 2 ^ s := Int.le_of_lt (Int.pow_pos (by decide)); exact this)]
  have : (2 ^ s : Int) = ((2 ^ s : Nat) : Int) := by simp
  rw [this]
  omega

theorem rotl_is (N : Nat) (a : BitVec 32) (s : Nat) (hs : s < 32) : bits_RotateLeft32 N a.toNat s = some ((a.rotateLeft s).toNat : Int) := by
  have e1 : IntKind.u64.wrap (s : Int) = s := u64_in (by omega)
  have e2 : IntKind.u64.wrap (((BitVec.ofInt 64 (s : Int)) &&& (BitVec.ofInt 64 31)).toNat : Int) = s := by
    have : ((BitVec.ofInt 64 (s : Int)) &&& (BitVec.ofInt 64 31)).toNat = s := by
      rw [BitVec.toNat_and]
      have h1 : (BitVec.ofInt 64 (s : Int)).toNat = s := by rw [BitVec.toNat_ofInt]; omega
      have h2 : (BitVec.ofInt 64 31).toNat = 2 ^ 5 - 1 := by decide
      rw [h1, h2, Nat.and_two_pow_sub_one_eq_mod]
      omega
    rw [this]; exact e1
  have e3 : IntKind.u64.wrap (32 - (s : Int)) = ((32 - s : Nat) : Int) := by rw [u64_in (by omega)]; omega
  have c1 : (!ltI (s : Int) 0) = true := by rw [ltI_eq]; simp
  have c2 : (!ltI ((32 - s : Nat) : Int) 0) = true := by rw [ltI_eq]; simp
  simp only [bits_RotateLeft32, bits_RotateLeft32_T, e1, e2, e3, c1, c2, toNat_nat, run_br, run_ret, if_true, show min s 32 = s by omega, show min (32 - s) 32 = 32 - s by omega, shl_wrap, shr_div, ofInt_nat, wrap_nat]
  rw [BitVec.rotateLeft, BitVec.rotateLeftAux, Nat.mod_eq_of_lt hs]

theorem wrot_is (N : Nat) (a : BitVec 32) (n : Int) (hn : 0 ≤ n ∧ n ≤ 4294967295) : word_Rot N a.toNat n = some ((rotW a n.toNat).toNat : Int) := by
  have e : n.tmod 32 = ((n.toNat % 32 : Nat) : Int) := by rw [Int.tmod_eq_emod_of_nonneg (by omega)]; omega
  have hlt : n.toNat % 32 < 32 := Nat.mod_lt _ (by omega)
  simp only [word_Rot, word_Rot_T, run_call, e, i64_nat (n := n.toNat % 32) (by omega), rotl_is N a _ hlt, Option.bind_some, run_ret, rotW, rot_repeat a _ hlt]

theorem wshl_is (N : Nat) (a : BitVec 32) (n : Int) (hn : 0 ≤ n ∧ n ≤ 31) : ∃ c, word_Shift N 0 a.toNat n false = some (((a <<< n.toNat).toNat : Int), c) := by
  have c1 : (!ltI n 0) = true := by rw [ltI_eq]; simp; omega
  have e1 : IntKind.u32.wrap (32 - n) = 32 - n := u32_in (by omega)
  have c2 : (!ltI (32 - n) 0) = true := by rw [ltI_eq]; simp; omega
  simp only [word_Shift, word_Shift_T, word_Shift_j3, word_Shift_j3_T, run_br, run_call, run_ret, c1, c2, e1, if_true, leI_eq, decide_eq_true_eq, beq_iffI, show min n.toNat 32 = n.toNat by omega, shl_wrap]
  by_cases h0 : n = 0
  · exact ⟨false, by simp [h0]⟩
  · rw [if_neg h0, if_pos (by omega)]
    exact ⟨_, rfl⟩
theorem wshr_is (N : Nat) (a : BitVec 32) (n : Int) (hn : 0 ≤ n ∧ n ≤ 31) : ∃ c, word_Shift N 1 a.toNat n false = some (((a >>> n.toNat).toNat : Int), c) := by
  have c1 : (!ltI n 0) = true := by rw [ltI_eq]; simp; omega
  simp only [word_Shift, word_Shift_T, word_Shift_j3, word_Shift_j3_T, run_br, run_call, run_ret, c1, if_true, leI_eq, decide_eq_true_eq, beq_iffI, show min n.toNat 32 = n.toNat by omega, shr_div]
  by_cases h0 : n = 0
  · exact ⟨false, by simp [h0]⟩
  · have e1 : IntKind.u32.wrap (n - 1) = n - 1 := u32_in (by omega)
    have c2 : (!ltI (n - 1) 0) = true := by rw [ltI_eq]; simp; omega
    rw [if_neg h0, if_neg (by decide)]
    simp only [e1, c2, if_true]
    rw [if_pos (by omega)]
    exact ⟨_, rfl⟩

theorem rat_is (N : Nat) (l : List Int) (h : WdL l) (n : Int) (hn : 0 ≤ n ∧ n ≤ 4294967295) (hl : l.length ≤ 1000000) : circ_at N l n = some ((atW l n).toNat : Int) := by
  simp only [circ_at, circ_at_T, run_br, run_ret, ltI_eq, decide_eq_true_eq, inRange_iff, u64_in (x := n) (by omega), u64_in (x := (l.length : Int)) (by omega), atW]
  by_cases hlt : n < l.length
  · have hget : l.getD n.toNat 0 = l[n.toNat] := getD_nat _ _ _ (by omega)
    have hw := h (l[n.toNat]'(by omega)) (List.getElem_mem _)
    rw [if_pos hlt, if_pos (by omega), hget, nat_bw hw]
  · have hget : l.getD n.toNat 0 = 0 := by rw [List.getD_eq_getElem?_getD, List.getElem?_eq_none (by omega)]; rfl
    rw [if_neg hlt, hget]
    rfl

theorem xor_ones (a : BitVec 32) : BitVec.ofInt 32 4294967295 ^^^ a = ~~~a := by
  have : BitVec.ofInt 32 4294967295 = BitVec.allOnes 32 := by decide
  rw [this, BitVec.allOnes_xor]

theorem rwords_j12 (N : Nat) (S P : List Int) (hS : WdL S) (hP : WdL P) (hSl : S.length ≤ 1000000) (hPl : P.length ≤ 1000000) (a b : BitVec 32) (z : Int) (ws : List Int) (k n : Int) (hk : 0 ≤ k ∧ k ≤ 11) (hn : 0 ≤ n ∧ n ≤ 4294967295) (h31 : 6 ≤ k ∧ k ≤ 8 → n ≤ 31) (hl : ws.length < 1000000) :
    circ_words_j12 N S P a.toNat b.toNat z ws k n = some (ws ++ [((ev S P k a b n).toNat : Int)]) := by
  have cap : ((ws.length : Int) + 1) * 4 < 140737488355328 := by omega
  simp only [circ_words_j12, circ_words_j12_T, run_br, run_call, run_ret, beq_iffI, ltI_eq, decide_eq_true_eq, cap, if_true, rat_is N S hS n hn hSl, rat_is N P hP n hn hPl, ofInt_nat, wrap_nat, wrap_add, wrap_sub, xor_ones, wrot_is N a n hn, Option.bind_some]
  rcases kinds hk with rfl | rfl | rfl | rfl | rfl | rfl | rfl | rfl | rfl | rfl | rfl | rfl
  · simp [ev]; omega
  · simp [ev]
  · simp [ev]
  · simp [ev]
  · simp [ev]
  · simp [ev]
  · obtain ⟨c, hc⟩ := wshl_is N a n ⟨hn.1, h31 (by omega)⟩
    simp [ev, hc]
  · obtain ⟨c, hc⟩ := wshr_is N a n ⟨hn.1, h31 (by omega)⟩
    simp [ev, hc]
  · simp [ev]
  · simp [ev]
  · simp [ev]
  · simp [ev]

theorem rwords_is (N : Nat) (gs : List Gate) (s p : Int) (os : List GOut) (S P : List Int) (hS : WdL S) (hP : WdL P) (hSl : S.length ≤ 1000000) (hPl : P.length ≤ 1000000) (hw : Wds gs) (ho : os.length ≤ 8000) (hN : 8000 < N) :
    circ_words N gs s p os S P = some (if CanOK gs s p os then nats (wv S P gs) else []) := by
  simp only [circ_words, circ_words_T, run_br, run_call, run_ret, real_can N gs s p os hw (by omega) (by omega) (by omega), Option.bind_some]
  by_cases hc : CanOK gs s p os
  · have hl := hc.2.2.1
    have l5 : circ_words_l5 N S P gs gs.length (0, []) = some (nats (wv S P gs)) := by
      unfold circ_words_l5
      have := loop_up (s := fun v => circ_words_l5_T N S P gs gs.length v.1 v.2) (fun i : Nat => ((i : Int), nats (wv S P (gs.take i)))) gs.length (nats (wv S P gs)) (k := 0) (m := N) (by omega) (by omega) (fun i _ hlt => ?_) ?_
      · exact this
      · have hg : gs.getD i g0 = gs[i] := getD_nat _ _ _ hlt
        have hok := hc.2.2.2.1 i hlt
        have hwi := hw i hlt
        rw [hg] at hok hwi
        have hlen : (wv S P (gs.take i)).length = i := by rw [wv_len]; simp; omega
        have h31 : 6 ≤ gs[i].1 ∧ gs[i].1 ≤ 8 → gs[i].2.2.2.1 ≤ 31 := hok.2.2.2.2.2.1.2.2.1
        have j := fun a b => rwords_j12 N S P hS hP hSl hPl a b 0 (nats (wv S P (gs.take i))) gs[i].1 gs[i].2.2.2.1 hok.1 hwi h31 (by rw [nats_len, hlen]; omega)
        have hfin : ∀ a b, (1 ≤ takes gs[i].1 → a = (wv S P (gs.take i)).getD gs[i].2.1.toNat 0) → (2 ≤ takes gs[i].1 → b = (wv S P (gs.take i)).getD gs[i].2.2.1.toNat 0) → nats (wv S P (gs.take i)) ++ [((ev S P gs[i].1 a b gs[i].2.2.2.1).toNat : Int)] = nats (wv S P (gs.take (i + 1))) := by
          intro a b ha hb
          rw [wv_take S P gs i hlt, ev_congr hok.1 ha hb]
          simp [nats, wstep]
        have z0 : ((0 : BitVec 32).toNat : Int) = 0 := rfl
        have key : ∀ a b, (1 ≤ takes gs[i].1 → a = (wv S P (gs.take i)).getD gs[i].2.1.toNat 0) → (2 ≤ takes gs[i].1 → b = (wv S P (gs.take i)).getD gs[i].2.2.1.toNat 0) → circ_words_j12 N S P (a : BitVec 32).toNat (b : BitVec 32).toNat 0 (nats (wv S P (gs.take i))) gs[i].1 gs[i].2.2.2.1 = some (nats (wv S P (gs.take (i + 1)))) := fun a b ha hb => by rw [j, hfin a b ha hb]
        simp only [circ_words_l5_T, circ_words_j10, circ_words_j10_T, run_br, run_call, run_ret, ltI_eq, decide_eq_true_eq, inRange_iff, toNat_nat, hg, real_takes, Option.bind_some, nats_len, hlen, nats_get, i64_succ (i := i) (by omega)]
        rw [if_pos (by omega), if_pos (by omega)]
        rcases takes_cases gs[i].1 with ht | ht | ht
        · have k0 := key 0 0 (by omega) (by omega)
          rw [z0] at k0
          simp [ht, k0]
        · have b1 := hok.2.2.2.1 (by omega)
          have k0 := key _ 0 (fun _ => rfl) (by omega)
          rw [z0] at k0
          simp only [ht, b1, and_self, if_true, show (0 : Int) < 1 by decide, show ¬ (1 : Int) < 1 by decide, if_false, k0, Option.bind_some]
        · have b1 := hok.2.2.2.1 (by omega)
          have b2 := hok.2.2.2.2.1 (by omega)
          have k0 := key _ _ (fun _ => rfl) (fun _ => rfl)
          simp only [ht, b1, b2, and_self, if_true, show (0 : Int) < 2 by decide, show (1 : Int) < 2 by decide, k0, Option.bind_some]
      · simp [circ_words_l5_T]
    simp [hc, l5]
  · simp [hc]
end Go.Proofs.YtgajjcehnpaooaaGreatDoorV
