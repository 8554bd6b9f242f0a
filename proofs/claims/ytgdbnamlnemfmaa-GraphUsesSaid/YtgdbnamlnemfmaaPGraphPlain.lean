/- The plain law of GraphPlain. -/
import Derived.Test.YtgdbnamlnemfmaaPGraphP
namespace Go.Proofs.YtgdbnamlnemfmaaV
set_option linter.unusedVariables false
set_option linter.unusedSimpArgs false

section
variable {gs : List Gate} {s p : Int} {os : List GOut}

/-- With a turn by nothing in the place of each fresh one it is a circuit, too. -/
theorem can8 (h : CanOK (asK 5 gs) s p os) : CanOK (asK 8 gs) s p os := by
  refine ⟨h.1, h.2.1, by rw [asK_len]; have := h.2.2.1; rwa [asK_len] at this, fun i hi => ?_, fun j hj => ?_⟩
  · rw [asK_len] at hi
    have hok := gate_of h hi
    rw [asK_get 8 gs i hi]
    by_cases h12 : gs[i].1 = 12
    · simp only [asG, h12, if_true] at hok ⊢
      have hn := hok.2.2.2.2.2.1.2.2.2 (.inl ⟨by simp, by simp⟩)
      refine ⟨by simp, fun h => absurd h (by simp [takes]), fun _ => hok.2.2.1 (by simp [takes]), fun _ => hok.2.2.2.1 (by simp [takes]), fun h => absurd h (by simp [takes]), ?_, ?_⟩
      · simp only [NumOK]
        simp only at hn
        omega
      · rw [hok.2.2.2.2.2.2]
        simp only [secOf, as_sec]
        simp [takes]
    · simp only [asG, h12, if_false] at hok ⊢
      refine ⟨hok.1, hok.2.1, hok.2.2.1, hok.2.2.2.1, hok.2.2.2.2.1, hok.2.2.2.2.2.1, ?_⟩
      rw [hok.2.2.2.2.2.2]
      simp only [secOf, as_sec]
  · have := h.2.2.2.2 j hj
    rwa [asK_len] at this ⊢

theorem sec_at {i : Nat} (hi : i < gs.length) : sec gs (i : Int) = gs[i].2.2.2.2 := by simp only [sec, toNat_nat]; rw [getD_nat _ _ _ hi]

theorem pall_sem (S P : List Int) (h : GCan gs s p os) : ∀ i, i ≤ gs.length →
    AllOK (pall (gs.take i)).2 s p ∧ (∀ g ∈ (pall (gs.take i)).2, g.1 ≤ 8) ∧
      (∀ j : Nat, j < i → Hd S P (pall (gs.take i)).2 ((pall (gs.take i)).1.getD j 0) (sec gs j) (Wat S P (asK 8 gs) j))
  | 0, _ => ⟨fun i hi => by simp [pall] at hi, fun g hg => by simp [pall] at hg, fun j hj => absurd hj (by omega)⟩
  | i + 1, hi => by
    obtain ⟨ih1, ih2, ih3⟩ := pall_sem S P h i (by omega)
    have hlt : i < gs.length := by omega
    obtain ⟨n1, n2⟩ := pall_len gs i (by omega)
    have hc8 := can8 h.1.1
    have hok := gate_of h.1.1 hlt
    have hin := g_in h.1.1 hlt
    have hgate8 : GateOK (asK 8 gs) s p i ((asK 8 gs)[i]'(by rw [asK_len]; exact hlt)) := by
      have := hc8.2.2.2.1 i (by rw [asK_len]; exact hlt)
      rwa [getD_nat _ _ _ (by rw [asK_len]; exact hlt)] at this
    have hw := wat_gate (S := S) (P := P) (by rw [asK_len]; exact hlt) hgate8
    have e8 : (asK 8 gs)[i]'(by rw [asK_len]; exact hlt) = asG 8 gs[i] := by simp [asK]
    rw [e8] at hw
    rw [pall_take gs i hlt]
    by_cases h12 : gs[i].1 = 12
    · have hb := ref_refs h.1.1 hlt h12
      simp only [pstep, h12, if_true]
      refine ⟨ih1, ih2, fun j hj => ?_⟩
      rcases Nat.lt_or_ge j i with hji | hji
      · rw [getD_left _ _ _ (by omega)]
        exact ih3 j hji
      · obtain rfl : j = i := by omega
        rw [getD_last _ _ _ n1.symm]
        have hd := ih3 gs[j].2.1.toNat (by omega)
        rw [show ((gs[j].2.1.toNat : Nat) : Int) = gs[j].2.1 by omega] at hd
        have hs : sec gs (j : Int) = sec gs gs[j].2.1 := by
          rw [sec_at hlt, sec_gate h.1.1 hlt]
          simp [asG, h12, secOf, takes]
        have hww : Wat S P (asK 8 gs) (j : Int) = Wat S P (asK 8 gs) gs[j].2.1 := by
          rw [hw]
          have hn := (hok).2.2.2.2.2.1
          simp only [asG, h12, if_true] at hn ⊢
          have hn0 : gs[j].2.2.2.1 = 0 := hn.2.2.2 (.inl ⟨by simp, by simp⟩)
          simp [ev, hn0, rotW, Nat.repeat]
        rw [hs, hww]
        exact hd
    · simp only [asG, h12, if_false] at hok hw
      have hk8 : gs[i].1 ≤ 8 := by rcases kind_le h.1.2 hlt with h | h; exact h; exact absurd h h12
      have htk : tkG gs[i].1 = takes gs[i].1 := by unfold tkG; rw [if_neg h12]
      rw [htk] at hin
      have ha : 1 ≤ takes gs[i].1 → Hd S P (pall (gs.take i)).2 ((pall (gs.take i)).1.getD gs[i].2.1.toNat 0) (sec gs gs[i].2.1) (Wat S P (asK 8 gs) gs[i].2.1) := by
        intro h1
        have hb := hin.1 h1
        have := ih3 gs[i].2.1.toNat (by omega)
        rwa [show ((gs[i].2.1.toNat : Nat) : Int) = gs[i].2.1 by omega] at this
      have hb : 2 ≤ takes gs[i].1 → Hd S P (pall (gs.take i)).2 ((pall (gs.take i)).1.getD gs[i].2.2.1.toNat 0) (sec gs gs[i].2.2.1) (Wat S P (asK 8 gs) gs[i].2.2.1) := by
        intro h1
        have hb := hin.2 h1
        have := ih3 gs[i].2.2.1.toNat (by omega)
        rwa [show ((gs[i].2.2.1.toNat : Nat) : Int) = gs[i].2.2.1 by omega] at this
      have hsec : gs[i].2.2.2.2 = secOf (pall (gs.take i)).2 gs[i].1 (pgate (pall (gs.take i)).1 gs[i]).2.1 (pgate (pall (gs.take i)).1 gs[i]).2.2.1 := by
        rw [sec_gate h.1.1 hlt]
        simp only [asG, h12, if_false, secOf, pgate, htk]
        rcases takes_cases gs[i].1 with ht | ht | ht
        · simp [ht]
        · simp only [ht, (ha (by omega)).2.1, show (1 : Int) ≤ 1 by decide, show ¬ (2 : Int) ≤ 1 by decide, if_true, if_false]
          simp
        · simp only [ht, (ha (by omega)).2.1, (hb (by omega)).2.1, show (1 : Int) ≤ 2 by decide, show (2 : Int) ≤ 2 by decide, if_true]
      have hpg : (pall (gs.take i)).2 ++ [pgate (pall (gs.take i)).1 gs[i]] = (app (pall (gs.take i)).2 gs[i].1 (pgate (pall (gs.take i)).1 gs[i]).2.1 (pgate (pall (gs.take i)).1 gs[i]).2.2.1 gs[i].2.2.2.1).2 := by
        simp only [app, ← hsec]
        simp only [pgate]
      have hnew : ((pall (gs.take i)).2.length : Int) = (app (pall (gs.take i)).2 gs[i].1 (pgate (pall (gs.take i)).1 gs[i]).2.1 (pgate (pall (gs.take i)).1 gs[i]).2.2.1 gs[i].2.2.2.1).1 := rfl
      have pa : 1 ≤ takes gs[i].1 → (pgate (pall (gs.take i)).1 gs[i]).2.1 = (pall (gs.take i)).1.getD gs[i].2.1.toNat 0 := fun h1 => by simp only [pgate, htk]; rw [if_pos h1]
      have pa0 : takes gs[i].1 < 1 → (pgate (pall (gs.take i)).1 gs[i]).2.1 = 0 := fun h1 => by simp only [pgate, htk]; rw [if_neg (by omega)]; exact hok.2.1 h1
      have pb : 2 ≤ takes gs[i].1 → (pgate (pall (gs.take i)).1 gs[i]).2.2.1 = (pall (gs.take i)).1.getD gs[i].2.2.1.toNat 0 := fun h1 => by simp only [pgate, htk]; rw [if_pos h1]
      have pb0 : takes gs[i].1 < 2 → (pgate (pall (gs.take i)).1 gs[i]).2.2.1 = 0 := fun h1 => by simp only [pgate, htk]; rw [if_neg (by omega)]; exact hok.2.2.1 h1
      simp only [pstep, h12, if_false, hpg]
      have hHd := Hd.new (S := S) (P := P) (pall (gs.take i)).2 gs[i].1 (pgate (pall (gs.take i)).1 gs[i]).2.1 (pgate (pall (gs.take i)).1 gs[i]).2.2.1 gs[i].2.2.2.1
      refine ⟨ih1.app hok.1 pa0 pb0 (fun h1 => by rw [pa h1]; exact (ha h1).1) (fun h1 => by rw [pb h1]; exact (hb h1).1) hok.2.2.2.2.2.1, ?_, fun j hj => ?_⟩
      · rw [← hpg]
        intro g hg
        simp only [List.mem_append, List.mem_singleton] at hg
        rcases hg with hg | rfl
        · exact ih2 g hg
        · exact hk8
      · rcases Nat.lt_or_ge j i with hji | hji
        · rw [getD_left _ _ _ (by omega)]
          exact (ih3 j hji).old _ _ _ _
        · obtain rfl : j = i := by omega
          rw [getD_last _ _ _ n1.symm, hnew, sec_at hlt, hsec, hw]
          rw [ev_congr (a' := Wat S P (asK 8 gs) gs[j].2.1) (b' := Wat S P (asK 8 gs) gs[j].2.2.1) hok.1 (fun h1 => by rw [pa h1]; exact (ha h1).2.2) (fun h1 => by rw [pb h1]; exact (hb h1).2.2)] at hHd
          exact hHd

theorem plain_can (h : GCan gs s p os) : CanOK (pall gs).2 s p (pout (pall gs).1 os) := by
  have hs := pall_sem (S := []) (P := []) h gs.length (Nat.le_refl _)
  have hl := pall_len gs gs.length (Nat.le_refl _)
  rw [List.take_length] at hs hl
  have hlen := h.1.1.2.2.1
  rw [asK_len] at hlen
  refine ⟨h.1.1.1, h.1.1.2.1, by omega, hs.1, fun j hj => ?_⟩
  have hj' : j < os.length := by simpa [pout] using hj
  have hb := out_in h.1.1 hj'
  rw [getD_nat _ _ _ hj]
  simp only [pout, List.getElem_map]
  exact (hs.2.2 os[j].2.toNat (by omega)).1

theorem outv_plain (S P : List Int) (h : GCan gs s p os) : outv S P (pall gs).2 (pout (pall gs).1 os) = outv S P (asK 8 gs) os := by
  have hs := pall_sem (S := S) (P := P) h gs.length (Nat.le_refl _)
  rw [List.take_length] at hs
  simp only [outv, pout, List.map_map]
  apply List.map_congr_left
  intro o ho
  obtain ⟨j, hj, rfl⟩ := List.getElem_of_mem ho
  have hb := out_in h.1.1 hj
  have := (hs.2.2 os[j].2.toNat (by omega)).2.2
  simp only [Function.comp_apply]
  simp only [Wat, toNat_nat] at this
  rw [this]
end

theorem plain_wds {gs : List Gate} (hw : Wds gs) : Wds (pall gs).2 := by
  rw [Wds_iff] at hw ⊢
  have H : ∀ i, i ≤ gs.length → ∀ g ∈ (pall (gs.take i)).2, Wd g := by
    intro i
    induction i with
    | zero => intro _ g hg; simp [pall] at hg
    | succ i ih =>
      intro hi g hg
      rw [pall_take gs i (by omega)] at hg
      unfold pstep at hg
      split at hg
      · exact ih (by omega) g hg
      · simp only [List.mem_append, List.mem_singleton] at hg
        rcases hg with hg | rfl
        · exact ih (by omega) g hg
        · exact hw gs[i] (List.getElem_mem _)
  have := H gs.length (Nat.le_refl _)
  rwa [List.take_length] at this

theorem plainS_bounds (gs : List Gate) (s p : Int) (os : List GOut) : (plainS gs s p os).2.2.1.length ≤ gs.length ∧ (plainS gs s p os).2.2.2.length ≤ os.length := by
  have hl := pall_len gs gs.length (Nat.le_refl _)
  rw [List.take_length] at hl
  unfold plainS
  split
  · exact ⟨hl.2, by simp [pout]⟩
  · simp

theorem l10_is (N : Nat) (gs : List Gate) (os : List GOut) (w : List Int) (hw : w.length = gs.length) (ho : os.length ≤ 8000) (hN : 9000 < N) (hb : ∀ j (h : j < os.length), 0 ≤ os[j].2 ∧ os[j].2 < gs.length) :
    bautalaw20_GraphPlain_l10 N gs os w (0, []) = some (os.map fun o => w.getD o.2.toNat 0) := by
  unfold bautalaw20_GraphPlain_l10
  have := loop_up (s := fun v => bautalaw20_GraphPlain_l10_T N gs os w v.1 v.2) (fun i : Nat => ((i : Int), (os.take i).map fun o => w.getD o.2.toNat 0)) os.length (os.map fun o => w.getD o.2.toNat 0) (k := 0) (m := N) (by omega) (by omega) (fun i _ hi => ?_) ?_
  · exact this
  · have hbi := hb i hi
    have hll : ((os.take i).map fun o => w.getD o.2.toNat 0).length = i := by simp; omega
    have c1 : ltI (((i : Int) + 1) * 4) 140737488355328 = true := by rw [ltI_eq, decide_eq_true_eq]; omega
    have c0 : ltI (i : Int) (os.length : Int) = true := by rw [ltI_eq, decide_eq_true_eq]; omega
    have hr : 0 ≤ (i : Int) ∧ (i : Int) < os.length := by omega
    simp only [bautalaw20_GraphPlain_l10_T, bautalaw20_GraphPlain_j12, bautalaw20_GraphPlain_j12_T, run_br, run_call, run_ret, c0, hw, hll, c1, inRange_iff, toNat_nat, getD_nat _ _ _ hi, if_pos hr, if_pos hbi, beq_self_eq_true, if_true, Option.bind_some, i64_succ (i := i) (by omega), take_snoc _ hi, List.map_append, List.map_cons, List.map_nil]
  · simp [bautalaw20_GraphPlain_l10_T]

theorem graphPlain_N (N : Nat) (hN : 9000 < N) (c : CircT) (h : WF circTy c) (S : List Int) (hS : WF (.list (.int .u32)) S) (P : List Int) (hP : WF (.list (.int .u32)) P) : bautalaw20_GraphPlain N c.1 c.2.1 c.2.2.1 c.2.2.2 S P = some true := by
  obtain ⟨gs, s, p, os⟩ := c
  have hw : Wds gs := wds_of h.1
  have hS' := wdL_take (wdL_of hS) 100
  have hP' := wdL_take (wdL_of hP) 100
  have lS := short_le S
  have lP := short_le P
  simp only [bautalaw20_GraphPlain, bautalaw20_GraphPlain_T, run_call, few_is, short_is, Option.bind_some, lives_holds N hN, run_br, run_ret]
  by_cases hf : gs.length ≤ 150 ∧ os.length ≤ 100
  · obtain ⟨b1, b2⟩ := plainS_bounds gs s p os
    have hl : gs.length ≤ 8000 := by omega
    have ho : os.length ≤ 8000 := by omega
    simp only [decide_eq_true hf, own_is N gs os (by omega) (by omega), real_gplain N gs s p os hw hl ho hN, ref_gplain N gs s p os hw hl ho hN, ref_gcan N gs s p os hw hl ho hN, same_refl N (plainS gs s p os).2.2.1 (plainS gs s p os).1 (plainS gs s p os).2.1 (plainS gs s p os).2.2.2 (by omega) (by omega) (by omega) (by omega), Option.bind_some]
    by_cases hc : GCan gs s p os
    · have hwl : (nats (wv (S.take 100) (P.take 100) (asK 8 gs))).length = gs.length := by rw [nats_len, wv_len, asK_len]
      have hgw : gwords (S.take 100) (P.take 100) gs s p os = nats (wv (S.take 100) (P.take 100) (asK 8 gs)) := by
        rw [gwords, if_pos hc, if_pos (can8 hc.1.1)]
      have hps : plainS gs s p os = (s, p, (pall gs).2, pout (pall gs).1 os) := by rw [plainS, if_pos hc]
      have hres : (os.map fun o => (nats (wv (S.take 100) (P.take 100) (asK 8 gs))).getD o.2.toNat 0) = outv (S.take 100) (P.take 100) (pall gs).2 (pout (pall gs).1 os) := by
        rw [outv_plain _ _ hc]
        simp only [outv, nats_get]
      have hout := outs_is N (pall gs).2 s p (pout (pall gs).1 os) _ _ hS' hP' (plain_wds hw) (by simp [pout]; omega) (by omega)
      rw [if_pos (plain_can hc)] at hout
      have hol : (outv (S.take 100) (P.take 100) (pall gs).2 (pout (pall gs).1 os)).length ≤ 100 := by simp [outv, pout]; omega
      simp only [decide_eq_true hc, real_gwords N gs s p os _ _ hS' hP' (by omega) (by omega) hw hl ho hN, hgw, l10_is N gs os _ hwl ho hN (fun j hj => out_in hc.1.1 hj), hres, hps, hout, sameL_refl N _ (by omega : (outv (S.take 100) (P.take 100) (pall gs).2 (pout (pall gs).1 os)).length ≤ 9000000) (by omega), Option.bind_some]
      simp
    · simp [hc, plainS]
  · simp [hf]

theorem graphPlain_law (c : CircT) (h : WF circTy c) (S : List Int) (hS : WF (.list (.int .u32)) S) (P : List Int) (hP : WF (.list (.int .u32)) P) : bautalaw20_GraphPlain 9001 c.1 c.2.1 c.2.2.1 c.2.2.2 S P = some true := graphPlain_N 9001 (by omega) c h S hS P hP
end Go.Proofs.YtgdbnamlnemfmaaV
