/- The plain laws of chapter 15: CircCans, CircWords, CircOpen. -/
import Derived.Test.YtgajjcehnpaooaaGreatDoorPWordsR
namespace Go.Proofs.YtgajjcehnpaooaaGreatDoorV
set_option linter.unusedVariables false
set_option linter.unusedSimpArgs false

abbrev CircT := List Gate × (Int × (Int × List GOut))
abbrev circTy : Ty := .prod (.list (.prod (.int .i64) (.prod (.int .i64) (.prod (.int .i64) (.prod (.int .u32) .bool))))) (.prod (.int .i64) (.prod (.int .i64) (.list (.prod .str (.int .i64)))))

theorem cir_lives (m : Nat) : bautalaw15_lives (m + 200) = some true := by kernel_rfl
theorem lives_ok (N : Nat) (h : 200 ≤ N) : bautalaw15_lives N = some true := by
  obtain ⟨m, rfl⟩ : ∃ m, N = m + 200 := ⟨N - 200, by omega⟩
  exact cir_lives m

theorem short_is (N : Nat) (l : List Int) : bautalaw15_short N l = some (l.take 100) := by
  simp only [bautalaw15_short, bautalaw15_short_T, run_br, run_ret, ltI_eq, leI_eq, decide_eq_true_eq, Bool.and_eq_true]
  by_cases h1 : (100 : Int) < l.length
  · rw [if_pos h1, if_pos (by omega), if_pos (by simp only [List.length_take]; omega)]
  · rw [if_neg h1, if_pos (by omega), List.take_of_length_le (by omega)]
theorem wdL_take {l : List Int} (h : WdL l) (n : Nat) : WdL (l.take n) := fun x hx => h x (List.mem_of_mem_take hx)
theorem wdL_of {l : List Int} (h : WF (.list (.int .u32)) l) : WdL l := by
  intro x hx
  have := h.2 x hx
  simp only [WF, Lit.wf, Bool.and_eq_true, decide_eq_true_eq] at this
  exact this
theorem wds_of {gs : List Gate} (h : WF (.list (.prod (.int .i64) (.prod (.int .i64) (.prod (.int .i64) (.prod (.int .u32) .bool))))) gs) : Wds gs := by
  intro i hi
  rw [getD_nat _ _ _ hi]
  have := (h.2 _ (List.getElem_mem hi)).2.2.2.1
  simp only [WF, Lit.wf, Bool.and_eq_true, decide_eq_true_eq] at this
  exact this
theorem short_le (l : List Int) : (l.take 100).length ≤ 100 := by simp only [List.length_take]; omega
theorem own_is (N : Nat) (gs : List Gate) (os : List GOut) (h1 : gs.length * 32 < 140737488355328) (h2 : os.length * 24 < 140737488355328) : bautaref15_Own N gs os = some () := by
  simp only [bautaref15_Own, bautaref15_Own_T, run_br, run_ret, ltI_eq, decide_eq_true_eq]
  rw [if_pos (by omega), if_pos (by omega)]

theorem circCans_N (N : Nat) (hN : 9000 < N) (gs : List Gate) (s p : Int) (os : List GOut) (hw : Wds gs) (h1 : gs.length * 32 < 140737488355328) (h2 : os.length * 24 < 140737488355328) (h3 : os.length < N) : bautalaw15_CircCans N gs s p os = some true := by
  simp only [bautalaw15_CircCans, bautalaw15_CircCans_T, run_call, run_br, run_ret, own_is N gs os h1 h2, real_Can N gs s p os hw (by omega) h3 (by omega), ref_can N gs s p os hw (by omega) h3 (by omega), lives_ok N (by omega), Option.bind_some]
  simp

theorem circCans_law (c : CircT) (h : WF circTy c) (z0 : c.1.length * 32 < 140737488355328) (z1 : c.2.2.2.length * 24 < 140737488355328) : bautalaw15_CircCans 6000000000000 c.1 c.2.1 c.2.2.1 c.2.2.2 = some true :=
  circCans_N 6000000000000 (by omega) _ _ _ _ (wds_of h.1) z0 z1 (by omega)

theorem small_is (N : Nat) (gs : List Gate) (os : List GOut) : bautalaw15_Small N gs os = some (decide (gs.length ≤ 3000 ∧ os.length ≤ 300)) := by
  simp only [bautalaw15_Small, bautalaw15_Small_T, run_br, run_ret, leI_eq, decide_eq_true_eq]
  by_cases h1 : (gs.length : Int) ≤ 3000
  · rw [if_pos h1, Option.some.injEq, decide_eq_decide]
    omega
  · rw [if_neg h1, Option.some.injEq, eq_comm, decide_eq_false_iff_not]
    omega

theorem rouths_is (N : Nat) (gs : List Gate) (s p : Int) (os : List GOut) (S P : List Int) (hS : WdL S) (hP : WdL P) (hSl : S.length ≤ 1000000) (hPl : P.length ≤ 1000000) (hw : Wds gs) (ho : os.length ≤ 8000) (hN : 8000 < N) :
    circ_Outs N gs s p os S P = some (if CanOK gs s p os then outv S P gs os else []) := by
  simp only [circ_Outs, circ_Outs_T, run_br, run_call, run_ret, real_can N gs s p os hw (by omega) (by omega) (by omega), rwords_is N gs s p os S P hS hP hSl hPl hw ho hN, Option.bind_some]
  by_cases hc : CanOK gs s p os
  · have l6 : circ_Outs_l6 N os os.length (nats (wv S P gs)) (0, []) = some (outv S P gs os) := by
      unfold circ_Outs_l6
      have := loop_up (s := fun v => circ_Outs_l6_T N os os.length (nats (wv S P gs)) v.1 v.2) (fun i : Nat => ((i : Int), outv S P gs (os.take i))) os.length (outv S P gs os) (k := 0) (m := N) (by omega) (by omega) (fun i _ hi => ?_) ?_
      · exact this
      · have hg : os.getD i (ByteArray.empty, 0) = os[i] := getD_nat _ _ _ hi
        have hb := hc.2.2.2.2 i hi
        rw [hg] at hb
        have hll : (outv S P gs (os.take i)).length = i := by simp [outv]; omega
        simp only [circ_Outs_l6_T, run_br, run_call, run_ret, ltI_eq, decide_eq_true_eq, nats_len, wv_len, inRange_iff, toNat_nat, hg, hll, nats_get, i64_succ (i := i) (by omega)]
        rw [if_pos (by omega), if_pos (by omega), if_pos (by omega), if_pos (by omega), take_snoc _ hi]
        simp only [outv, List.map_append, List.map_cons, List.map_nil, Option.bind_some]
      · simp [circ_Outs_l6_T]
    simp [hc, l6]
  · simp [hc]

theorem circWords_N (N : Nat) (hN : 9000 < N) (gs : List Gate) (s p : Int) (os : List GOut) (S P : List Int) (hw : Wds gs) (hS : WdL S) (hP : WdL P) : bautalaw15_CircWords N gs s p os S P = some true := by
  have hS' := wdL_take hS 100
  have hP' := wdL_take hP 100
  have lS := short_le S
  have lP := short_le P
  simp only [bautalaw15_CircWords, bautalaw15_CircWords_T, run_call, small_is, short_is, Option.bind_some, lives_ok N (by omega), run_br, run_ret]
  by_cases hf : gs.length ≤ 3000 ∧ os.length ≤ 300
  · have e1 : bautaref05_Same N (if CanOK gs s p os then nats (wv (S.take 100) (P.take 100) gs) else []) (if CanOK gs s p os then nats (wv (S.take 100) (P.take 100) gs) else []) = some true := by
      split
      · exact sameL_refl N _ (by rw [nats_len, wv_len]; omega) (by rw [nats_len, wv_len]; omega)
      · exact sameL_refl N _ (by simp) (by simp; omega)
    have e2 : bautaref05_Same N (if CanOK gs s p os then outv (S.take 100) (P.take 100) gs os else []) (if CanOK gs s p os then outv (S.take 100) (P.take 100) gs os else []) = some true := by
      split
      · exact sameL_refl N _ (by simp [outv]; omega) (by simp [outv]; omega)
      · exact sameL_refl N _ (by simp) (by simp; omega)
    have w1 : circ_Words N gs s p os (S.take 100) (P.take 100) = some (if CanOK gs s p os then nats (wv (S.take 100) (P.take 100) gs) else []) := by
      simp only [circ_Words, circ_Words_T, run_call, run_ret, rwords_is N gs s p os _ _ hS' hP' (by omega) (by omega) hw (by omega) (by omega), Option.bind_some]
    simp only [decide_eq_true hf, own_is N gs os (by omega) (by omega), w1, words_is N gs s p os _ _ hS' hP' hw (by omega) (by omega), e1, rouths_is N gs s p os _ _ hS' hP' (by omega) (by omega) hw (by omega) (by omega), outs_is N gs s p os _ _ hS' hP' hw (by omega) (by omega), e2, Option.bind_some]
    simp
  · simp [hf]

theorem circWords_law (c : CircT) (h : WF circTy c) (S : List Int) (hS : WF (.list (.int .u32)) S) (P : List Int) (hP : WF (.list (.int .u32)) P) : bautalaw15_CircWords 100002 c.1 c.2.1 c.2.2.1 c.2.2.2 S P = some true :=
  circWords_N 100002 (by omega) _ _ _ _ S P (wds_of h.1) (wdL_of hS) (wdL_of hP)

/-! ### What is not secret hangs on no secret -/
theorem ev_pub {S S' P : List Int} {k n : Int} {a b : BitVec 32} (hk : k ≠ 1) : ev S P k a b n = ev S' P k a b n := by
  unfold ev
  simp only [hk, if_false]

theorem ev_congr2 {S S' P : List Int} {k n : Int} {a b a' b' : BitVec 32} (hk : 0 ≤ k ∧ k ≤ 11) (h1 : k ≠ 1) (ha : 1 ≤ takes k → a = a') (hb : 2 ≤ takes k → b = b') : ev S P k a b n = ev S' P k a' b' n := by
  rw [ev_pub (S' := S') h1]
  exact ev_congr hk ha hb

theorem wv_pub (S S' P : List Int) (gs : List Gate) (s p : Int) (h : ∀ i, i < gs.length → GateOK gs s p i (gs.getD i g0)) : ∀ j, j ≤ gs.length → ∀ i, i < j → sec gs i = false → (wv S P (gs.take j)).getD i 0 = (wv S' P (gs.take j)).getD i 0 := by
  intro j
  induction j with
  | zero => intro _ i hi; omega
  | succ j ih =>
    intro hj i hi hs
    have ih := ih (by omega)
    have hok := h j (by omega)
    rw [getD_nat _ _ _ (by omega : j < gs.length)] at hok
    have l1 : (wv S P (gs.take j)).length = j := by rw [wv_len]; simp; omega
    have l2 : (wv S' P (gs.take j)).length = j := by rw [wv_len]; simp; omega
    rw [wv_take S P gs j (by omega), wv_take S' P gs j (by omega)]
    unfold wstep
    by_cases e : i < j
    · rw [getD_left _ _ _ (by omega), getD_left _ _ _ (by omega)]
      exact ih i e hs
    · obtain rfl : i = j := by omega
      rw [getD_last _ _ _ l1.symm, getD_last _ _ _ l2.symm]
      have hsec := hok.2.2.2.2.2.2
      have hg : sec gs (i : Int) = gs[i].2.2.2.2 := by unfold sec; rw [toNat_nat, getD_nat _ _ _ (by omega)]
      rw [hg, hsec] at hs
      simp only [secOf, Bool.or_eq_false_iff, Bool.and_eq_false_iff, decide_eq_false_iff_not] at hs
      have nat' : ∀ x : Int, 0 ≤ x → sec gs x = false → sec gs (x.toNat : Int) = false := fun x hx hh => by rw [Int.toNat_of_nonneg hx]; exact hh
      refine ev_congr2 hok.1 hs.1.1 (fun ht => ?_) (fun ht => ?_)
      · have b1 := hok.2.2.2.1 ht
        have := hs.1.2.resolve_left (by omega)
        exact ih _ (by omega) (nat' _ b1.1 this)
      · have b2 := hok.2.2.2.2.1 ht
        have := hs.2.resolve_left (by omega)
        exact ih _ (by omega) (nat' _ b2.1 this)

theorem circOpen_N (N : Nat) (hN : 9000 < N) (gs : List Gate) (s p : Int) (os : List GOut) (S S' P : List Int) (hw : Wds gs) (hS : WdL S) (hS2 : WdL S') (hP : WdL P) : bautalaw15_CircOpen N gs s p os S S' P = some true := by
  have hS' := wdL_take hS 100
  have hS2' := wdL_take hS2 100
  have hP' := wdL_take hP 100
  have lS := short_le S
  have lS2 := short_le S'
  have lP := short_le P
  simp only [bautalaw15_CircOpen, bautalaw15_CircOpen_T, run_call, small_is, Option.bind_some, lives_ok N (by omega), run_br, run_ret]
  by_cases hf : gs.length ≤ 3000 ∧ os.length ≤ 300
  · simp only [decide_eq_true hf, ref_can N gs s p os hw (by omega) (by omega) (by omega), Option.bind_some]
    by_cases hc : CanOK gs s p os
    · have w : ∀ T : List Int, WdL T → T.length ≤ 100 → circ_Words N gs s p os T (P.take 100) = some (nats (wv T (P.take 100) gs)) := fun T hT hl => by
        simp only [circ_Words, circ_Words_T, run_call, run_ret, rwords_is N gs s p os _ _ hT hP' (by omega) (by omega) hw (by omega) (by omega), Option.bind_some, hc, if_true]
      have l7 : bautalaw15_CircOpen_l7 N gs (nats (wv (S.take 100) (P.take 100) gs)) (nats (wv (S'.take 100) (P.take 100) gs)) 0 = some (.inr ()) := by
        unfold bautalaw15_CircOpen_l7
        refine loop_up (s := fun v => bautalaw15_CircOpen_l7_T N gs (nats (wv (S.take 100) (P.take 100) gs)) (nats (wv (S'.take 100) (P.take 100) gs)) v) (fun i : Nat => (i : Int)) gs.length _ (k := 0) (m := N) (by omega) (by omega) (fun i _ hi => ?_) ?_
        · have hg : gs.getD i (0, (0, (0, (0, false)))) = gs[i] := getD_nat _ _ _ hi
          have hpub := wv_pub (S.take 100) (S'.take 100) (P.take 100) gs s p hc.2.2.2.1 gs.length (Nat.le_refl _) i hi
          rw [List.take_length] at hpub
          have hs : sec gs (i : Int) = gs[i].2.2.2.2 := by unfold sec; rw [toNat_nat, getD_nat _ _ _ (by omega)]
          simp only [bautalaw15_CircOpen_l7_T, run_br, run_ret, ltI_eq, decide_eq_true_eq, nats_len, wv_len, inRange_iff, toNat_nat, hg, nats_get, i64_succ (i := i) (by omega)]
          rw [if_pos (by omega), if_pos (by omega)]
          cases hb : gs[i].2.2.2.2 with
          | true => simp
          | false =>
            rw [hs] at hpub
            rw [hpub hb]
            simp [hi]
        · simp [bautalaw15_CircOpen_l7_T, nats_len, wv_len]
      have j6 : bautalaw15_CircOpen_j6 N gs (nats (wv (S.take 100) (P.take 100) gs)) (nats (wv (S'.take 100) (P.take 100) gs)) = some true := by
        simp only [bautalaw15_CircOpen_j6, bautalaw15_CircOpen_j6_T, run_call, l7, Option.bind_some, lives_ok N (by omega), run_ret]
        rfl
      have j3 : bautalaw15_CircOpen_j3 N P gs s p os S S' = some true := by
        simp only [bautalaw15_CircOpen_j3, bautalaw15_CircOpen_j3_T, run_call, run_br, run_ret, short_is, w _ hS' lS, w _ hS2' lS2, Option.bind_some, nats_len, wv_len, j6]
        simp
      simp [hc, j3]
    · simp [hc]
  · simp [hf]

theorem circOpen_law (c : CircT) (h : WF circTy c) (two : List Int × List Int) (ht : WF (.prod (.list (.int .u32)) (.list (.int .u32))) two) (P : List Int) (hP : WF (.list (.int .u32)) P) : bautalaw15_CircOpen 100002 c.1 c.2.1 c.2.2.1 c.2.2.2 two.1 two.2 P = some true :=
  circOpen_N 100002 (by omega) _ _ _ _ _ _ P (wds_of h.1) (wdL_of ht.1) (wdL_of ht.2) (wdL_of hP)
end Go.Proofs.YtgajjcehnpaooaaGreatDoorV
