/- A circuit without inputs comes to one constant for each word that goes out. -/
import Derived.Test.YtnlkfkkgcaiklaaPFoldH
namespace Go.Proofs.YtnlkfkkgcaiklaaV
set_option linter.unusedVariables false
set_option linter.unusedSimpArgs false

/-- The words of a list, each once. -/
def dis (w : List Int) : List Int := w.foldl (fun acc x => if x ∈ acc then acc else acc ++ [x]) []
theorem dis_snoc (w : List Int) (x : Int) : dis (w ++ [x]) = if x ∈ dis w then dis w else dis w ++ [x] := by
  unfold dis
  rw [List.foldl_append]
  rfl
theorem dis_go : ∀ (w acc : List Int), acc.Nodup → (∀ x, x ∈ w.foldl (fun acc x => if x ∈ acc then acc else acc ++ [x]) acc ↔ x ∈ acc ∨ x ∈ w) ∧ (w.foldl (fun acc x => if x ∈ acc then acc else acc ++ [x]) acc).Nodup
  | [], acc, h => ⟨fun x => by simp, h⟩
  | a :: w, acc, h => by
    rw [List.foldl_cons]
    by_cases ha : a ∈ acc
    · rw [if_pos ha]
      obtain ⟨h1, h2⟩ := dis_go w acc h
      refine ⟨fun x => ?_, h2⟩
      rw [h1, List.mem_cons]
      constructor
      · rintro (hx | hx)
        · exact .inl hx
        · exact .inr (.inr hx)
      · rintro (hx | rfl | hx)
        · exact .inl hx
        · exact .inl ha
        · exact .inr hx
    · rw [if_neg ha]
      have hn : (acc ++ [a]).Nodup := by
        rw [List.nodup_append]
        refine ⟨h, by simp, fun x hx y hy => ?_⟩
        simp only [List.mem_singleton] at hy
        subst hy
        rintro rfl
        exact ha hx
      obtain ⟨h1, h2⟩ := dis_go w (acc ++ [a]) hn
      refine ⟨fun x => ?_, h2⟩
      rw [h1, List.mem_append, List.mem_singleton, List.mem_cons, or_assoc]
theorem dis_mem (w : List Int) : ∀ x, x ∈ dis w ↔ x ∈ w := fun x => by
  have := (dis_go w [] List.nodup_nil).1 x
  simpa [dis] using this
theorem dis_nodup (w : List Int) : (dis w).Nodup := (dis_go w [] List.nodup_nil).2
theorem dis_len {w l : List Int} (hn : l.Nodup) (h : ∀ x, x ∈ w ↔ x ∈ l) : (dis w).length = l.length := by
  have hp : (dis w).Perm l := (List.perm_ext_iff_of_nodup (dis_nodup w) hn).2 fun x => (dis_mem w x).trans (h x)
  exact hp.length_eq

theorem l10_is (N : Nat) (w : List Int) (i : Nat) (hi : i < w.length) (hl : w.length ≤ 8000) (hN : 8001 < N) : bautalaw17_FoldConsts_l10 N i w (false, 0) = some (decide (w.getD i 0 ∈ w.take i)) := by
  have key : ∀ k, k ≤ i → bautalaw17_FoldConsts_l10 N i w (false, 0) = loopN (fun v => bautalaw17_FoldConsts_l10_T N i w v.1 v.2) N (false, 0) := fun _ _ => rfl
  rw [key 0 (by omega)]
  have := loop_up (s := fun v => bautalaw17_FoldConsts_l10_T N i w v.1 v.2) (fun k : Nat => (decide (w.getD i 0 ∈ w.take k), (k : Int))) i (decide (w.getD i 0 ∈ w.take i)) (k := 0) (m := N) (by omega) (by omega) (fun k _ hk => ?_) ?_
  · simpa using this
  · have c1 : ltI (k : Int) (i : Int) = true := by rw [ltI_eq, decide_eq_true_eq]; omega
    have c2 : inRange (k : Int) w.length = true := by rw [inRange_iff]; omega
    have c3 : inRange (i : Int) w.length = true := by rw [inRange_iff]; omega
    have hk' : k < w.length := by omega
    have hm : (w.getD i 0 ∈ w.take (k + 1)) ↔ (w.getD i 0 ∈ w.take k ∨ w.getD k 0 = w.getD i 0) := by
      rw [take_snoc _ hk', List.mem_append, List.mem_singleton, getD_nat w k 0 hk']
      exact ⟨fun h => h.imp id Eq.symm, fun h => h.imp id Eq.symm⟩
    simp only [bautalaw17_FoldConsts_l10_T, run_br, run_ret, c1, c2, c3, if_true, toNat_nat, i64_succ (i := k) (by omega), decide_eq_true_eq]
    have hm2 : decide (w.getD i 0 ∈ w.take (k + 1)) = decide (w.getD i 0 ∈ w.take k ∨ w.getD k 0 = w.getD i 0) := decide_eq_decide.2 hm
    rw [hm2]
    by_cases h : w.getD i 0 ∈ w.take k
    · simp only [h, if_true, true_or, decide_true]
    · simp only [h, if_false, false_or]
      rfl
  · have c1 : ltI (i : Int) (i : Int) = false := by rw [ltI_eq]; simp
    simp only [bautalaw17_FoldConsts_l10_T, run_br, run_ret, c1, Bool.false_eq_true, if_false]

theorem l6_is (N : Nat) (w : List Int) (hl : w.length ≤ 8000) (hN : 8001 < N) : bautalaw17_FoldConsts_l6 N w (0, 0) = some ((dis w).length : Int) := by
  unfold bautalaw17_FoldConsts_l6
  have hle : ∀ i, i ≤ w.length → (dis (w.take i)).length ≤ i := by
    intro i
    induction i with
    | zero => intro _; simp [dis]
    | succ i ih =>
      intro hi
      rw [take_snoc _ (by omega), dis_snoc]
      have := ih (by omega)
      split
      · omega
      · simp; omega
  have := loop_up (s := fun v => bautalaw17_FoldConsts_l6_T N w v.1 v.2) (fun i : Nat => (((dis (w.take i)).length : Int), (i : Int))) w.length ((dis w).length : Int) (k := 0) (m := N) (by omega) (by omega) (fun i _ hi => ?_) ?_
  · exact this
  · have c1 : ltI (i : Int) (w.length : Int) = true := by rw [ltI_eq, decide_eq_true_eq]; omega
    have hb := hle i (by omega)
    simp only [bautalaw17_FoldConsts_l6_T, run_br, run_call, run_ret, c1, if_true, l10_is N w i hi hl hN, Option.bind_some, i64_succ (i := i) (by omega), i64_succ (i := (dis (w.take i)).length) (by omega), not_iffB, decide_eq_true_eq]
    have hd := dis_mem (w.take i) (w.getD i 0)
    rw [take_snoc _ hi, dis_snoc, ← getD_nat w i 0 hi]
    by_cases h : w.getD i 0 ∈ w.take i
    · rw [if_neg (not_not_intro h), if_pos (hd.2 h)]
    · rw [if_pos h, if_neg (fun hh => h (hd.1 hh))]
      simp
  · have c1 : ltI (w.length : Int) (w.length : Int) = false := by rw [ltI_eq]; simp
    simp only [bautalaw17_FoldConsts_l6_T, run_br, run_ret, c1, Bool.false_eq_true, if_false, List.take_length]

theorem all_const {s p : Int} {d : List Gate × List GOut} (h : Pl s p d) (hL : LeastC d) (hi : inps d.1 = []) : ∀ i, i < d.1.length → (d.1.getD i g0).1 = 0 := by
  intro i
  induction i using Nat.strongRecOn with
  | ind i ih =>
    intro hlt
    have hok := h.can.2.2.2.1 i hlt
    have hf := h.few i hlt
    have hn := hL.nf i hlt
    have hg : d.1.getD i g0 = d.1[i] := getD_nat _ _ _ hlt
    have hno : ¬ isIn d.1[i] = true := by
      intro hh
      have : d.1[i] ∈ inps d.1 := List.mem_filter.2 ⟨List.getElem_mem hlt, hh⟩
      rw [hi] at this
      cases this
    rw [hg] at hok hf ⊢
    have hc : ∀ x : Int, 0 ≤ x ∧ x < i → cst (d.1.take i) x = true := by
      intro x hx
      rw [(cst_take hx).1]
      have := ih x.toNat (by omega) (by omega)
      simp only [cst, gat, this, decide_true]
    generalize d.1[i] = g at *
    obtain ⟨k, a, b, n, c⟩ := g
    obtain ⟨hk, h0, h0', h1, h2, hn', hcc⟩ := hok
    obtain ⟨n1, n2, n3⟩ := hn
    simp only [isIn, decide_eq_true_eq] at hk h0 h0' h1 h2 hn' hcc hf n1 n2 n3 hno ⊢
    by_cases hk5 : k = 5
    · have := h1 (by subst hk5; decide)
      have := hc a this
      rw [(n1 hk5).1] at this
      cases this
    by_cases hk6 : 6 ≤ k
    · have := h1 (by unfold takes; grind)
      have := hc a this
      rw [(n2 hk6).1] at this
      cases this
    by_cases hk3 : k = 3 ∨ k = 4
    · have ht : takes k = 2 := by rcases hk3 with rfl | rfl <;> rfl
      exact absurd ⟨hc a (h1 (by omega)), hc b (h2 (by omega))⟩ (n3 hk3).2.2.2
    omega

theorem used_const {gs : List Gate} (hc : ∀ i, i < gs.length → (gs.getD i g0).1 = 0) (os : List GOut) : usedG gs os = marks gs.length os := by
  have hs : ∀ i u, i < gs.length → u.length = gs.length → ustep gs i u = u := by
    intro i u hi hu
    have h0 := hc i hi
    have hii : isIn (gs.getD i g0) = false := by simp only [isIn, h0]; decide
    have e : u.set i (u.getD i false || isIn (gs.getD i g0)) = u := by
      rw [hii, Bool.or_false, getD_nat _ _ _ (by omega)]
      exact List.set_getElem_self (by omega)
    unfold ustep
    simp only [e, h0]
    have : takes 0 = 0 := rfl
    simp [this]
  have hg : ∀ i u, i ≤ gs.length → u.length = gs.length → ugo gs i u = u := by
    intro i
    induction i with
    | zero => intro u _ _; rfl
    | succ i ih =>
      intro u hi hu
      rw [ugo, hs i u (by omega) hu, ih u (by omega) hu]
  exact hg _ _ (Nat.le_refl _) (marks_len _ _)

theorem marks_of {n : Nat} {os : List GOut} {x : Nat} (h : (marks n os).getD x false = true) : ∃ o ∈ os, o.2.toNat = x := by
  have H : ∀ (os : List GOut) (u : List Bool), (os.foldl (fun u o => u.set o.2.toNat true) u).getD x false = true → u.getD x false = true ∨ ∃ o ∈ os, o.2.toNat = x := by
    intro os
    induction os with
    | nil => intro u h; exact .inl h
    | cons o os ih =>
      intro u h
      rcases ih _ h with h1 | ⟨q, h1, h2⟩
      · by_cases e : o.2.toNat = x
        · exact .inr ⟨o, by simp, e⟩
        · rw [getD_set_ne _ _ _ e] at h1
          exact .inl h1
      · exact .inr ⟨q, List.mem_cons_of_mem _ h1, h2⟩
  rcases H os _ h with h1 | h1
  · exfalso
    rw [List.getD_eq_getElem?_getD, List.getElem?_replicate] at h1
    split at h1 <;> simp at h1
  · exact h1

theorem foldConsts_N (N : Nat) (hN : 24001 < N) (c : CircT) (h : WF circTy c) : bautalaw17_FoldConsts N c.1 c.2.1 c.2.2.1 c.2.2.2 = some true := by
  obtain ⟨gs, s, p, os⟩ := c
  have hw : Wds gs := wds_of h.1
  simp only [bautalaw17_FoldConsts, bautalaw17_FoldConsts_T, run_call, run_br, run_ret, few_is, Option.bind_some, lives_is N hN, not_iffB, decide_eq_true_eq]
  by_cases hf : gs.length ≤ 400 ∧ os.length ≤ 100
  case neg => rw [if_pos hf]
  rw [if_neg (not_not_intro hf), plain_is N gs s p os hw (by omega) (by omega) (by omega), Option.bind_some]
  simp only [decide_eq_true_eq]
  by_cases hp : Lessens s p gs os
  case neg => rw [if_pos hp]
  rw [if_neg (not_not_intro hp), inputs_is N gs (by omega) (by omega), Option.bind_some]
  by_cases hin : ltI 0 ((inps gs).length : Int) = true
  case pos => rw [if_pos hin]
  rw [if_neg hin]
  have hi0 : inps gs = [] := by
    rw [ltI_iff] at hin
    exact List.length_eq_zero_iff.1 (by omega)
  obtain ⟨d, hd, h1, _⟩ := circuit_is N gs s p os hw (by omega) (by omega) hN
  obtain ⟨q1, q2, q3, q4⟩ := h1 hp
  have hol : d.2.length = os.length := q2.len
  have hgl : d.1.length ≤ gs.length := q2.gl
  have hdi : inps d.1 = [] := q2.inp.trans hi0
  have hcon := all_const q1 q4 hdi
  have hcd := q1.can
  have hcc := hp.1.1
  have hWn : WdL ([] : List Int) := fun x hx => by cases hx
  have hov : outv [] [] d.1 d.2 = outv [] [] gs os := outv_pres [] [] q2
  generalize hwd : outv [] [] gs os = w at *
  have hwl : w.length = os.length := by rw [← hwd]; simp [outv]
  -- the words are the constants' numbers
  have hnum : ∀ j, j < os.length → w.getD j 0 = (d.1.getD (d.2.getD j o0).2.toNat g0).2.2.2.1 := by
    intro j hj
    have hb := hcd.2.2.2.2 j (by omega)
    have hin : In d.1 (d.2.getD j o0).2 := hb
    obtain ⟨i, hi, e, hg, hok, hwat, _⟩ := hin.ok hcd.2.2.2.1
    have h0 := hcon i hi
    rw [getD_nat _ _ _ hi] at h0
    have hwi := q1.wd i hi
    rw [getD_nat _ _ _ hi] at hwi
    have e1 : w.getD j 0 = ((Wat [] [] d.1 (d.2.getD j o0).2).toNat : Int) := by
      rw [← hov]
      have hj' : j < d.2.length := by omega
      simp only [outv, List.getD_eq_getElem?_getD, List.getElem?_map, List.getElem?_eq_getElem hj']
      rfl
    rw [e1, hwat, h0, e, toNat_nat, getD_nat _ _ _ hi]
    simp only [ev, if_true]
    exact nat_bw hwi
  have hns : (dis w).length = d.1.length := by
    have hnd : (d.1.map fun g => g.2.2.2.1).Nodup := by
      have hk := q4.kd
      unfold List.Nodup at hk ⊢
      rw [List.pairwise_iff_getElem] at hk ⊢
      intro i j hi hj hij he
      simp only [List.length_map] at hi hj
      apply hk i j (by simpa using hi) (by simpa using hj) hij
      simp only [List.getElem_map] at he ⊢
      have a0 := hcon i hi
      have b0 := hcon j hj
      have ai := hcd.2.2.2.1 i hi
      have bi := hcd.2.2.2.1 j hj
      rw [getD_nat _ _ _ hi] at a0 ai
      rw [getD_nat _ _ _ hj] at b0 bi
      have t0 : takes 0 = 0 := rfl
      have a1 := ai.2.1 (by rw [a0, t0]; decide)
      have a2 := ai.2.2.1 (by rw [a0, t0]; decide)
      have b1 := bi.2.1 (by rw [b0, t0]; decide)
      have b2 := bi.2.2.1 (by rw [b0, t0]; decide)
      unfold kg
      rw [a0, a1, a2, b0, b1, b2, he]
    have hmem : ∀ x, x ∈ w ↔ x ∈ d.1.map fun g => g.2.2.2.1 := by
      intro x
      constructor
      · intro hx
        obtain ⟨j, hj, e⟩ := List.mem_iff_getElem.1 hx
        have := hnum j (by omega)
        rw [getD_nat _ _ _ hj, e] at this
        have hb := hcd.2.2.2.2 j (by omega)
        rw [this]
        refine List.mem_map.2 ⟨d.1.getD (d.2.getD j o0).2.toNat g0, mem_getD _ _ ?_, rfl⟩
        have hb' : 0 ≤ (d.2.getD j o0).2 ∧ (d.2.getD j o0).2 < (d.1.length : Int) := hb
        omega
      · intro hx
        obtain ⟨g, hg, rfl⟩ := List.mem_map.1 hx
        obtain ⟨i, hi, e⟩ := List.mem_iff_getElem.1 hg
        have hu := q4.used i hi
        rw [used_const hcon] at hu
        obtain ⟨o, ho, hoi⟩ := marks_of hu
        obtain ⟨j, hj, e2⟩ := List.mem_iff_getElem.1 ho
        have := hnum j (by omega)
        rw [getD_nat d.2 j o0 hj, e2, hoi, getD_nat _ _ _ hi, e] at this
        rw [← this]
        exact mem_getD _ _ (by omega)
    have := dis_len hnd hmem
    simpa using this
  have l18 : bautalaw17_FoldConsts_l18 N w d.1 d.2 0 = some (.inr ()) := by
    unfold bautalaw17_FoldConsts_l18
    refine loop_up (s := fun v => bautalaw17_FoldConsts_l18_T N w d.1 d.2 v) (fun k : Nat => (k : Int)) w.length _ (k := 0) (m := N) (by omega) (by omega) (fun i _ hi => ?_) ?_
    · have c1 : ltI (i : Int) (w.length : Int) = true := by rw [ltI_eq, decide_eq_true_eq]; omega
      have c2 : inRange (i : Int) d.2.length = true := by rw [inRange_iff]; omega
      have c3 : inRange (i : Int) w.length = true := by rw [inRange_iff]; omega
      have hb : 0 ≤ (d.2.getD i o0).2 ∧ (d.2.getD i o0).2 < (d.1.length : Int) := hcd.2.2.2.2 i (by omega)
      have c4 : inRange (d.2.getD i o0).2 d.1.length = true := by rw [inRange_iff]; exact hb
      have e1 := hcon (d.2.getD i o0).2.toNat (by omega)
      have e2 := hnum i (by omega)
      simp only [bautalaw17_FoldConsts_l18_T, run_br, run_ret, c1, c2, c3, if_true, toNat_nat, i64_succ (i := i) (by omega), bne_iffI]
      rw [show (d.2.getD i (ByteArray.empty, 0)) = d.2.getD i o0 from rfl, c4, show (d.1.getD (d.2.getD i o0).2.toNat (0, (0, (0, (0, false))))) = d.1.getD (d.2.getD i o0).2.toNat g0 from rfl, e2]
      simp only [if_true, e1, ne_eq, not_true_eq_false, if_false]
    · have c1 : ltI (w.length : Int) (w.length : Int) = false := by rw [ltI_eq]; simp
      simp only [bautalaw17_FoldConsts_l18_T, run_br, run_ret, c1, Bool.false_eq_true, if_false]
  simp only [bautalaw17_FoldConsts_j3, bautalaw17_FoldConsts_j3_T, bautalaw17_FoldConsts_j17, bautalaw17_FoldConsts_j17_T, run_call, run_br, run_ret, outs_is N gs s p os [] [] hWn hWn hw (by omega) (by omega), hcc, if_true, hwd, own_is N gs os (by omega) (by omega), hd, l6_is N w (by omega) (by omega), Option.bind_some, bne_iffI,
    hns, hol, hwl, l18, run_inr, lives_is N hN]
  simp
theorem foldConsts_law (c : CircT) (h : WF circTy c) : bautalaw17_FoldConsts 30000 c.1 c.2.1 c.2.2.1 c.2.2.2 = some true := foldConsts_N 30000 (by decide) c h
end Go.Proofs.YtnlkfkkgcaiklaaV
