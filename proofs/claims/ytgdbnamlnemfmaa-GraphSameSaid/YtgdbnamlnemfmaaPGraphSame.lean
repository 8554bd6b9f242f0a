/- The plain law of GraphSame. -/
import Derived.Test.YtgdbnamlnemfmaaPGraphPlain
namespace Go.Proofs.YtgdbnamlnemfmaaV
set_option linter.unusedVariables false
set_option linter.unusedSimpArgs false

section
variable {gs : List Gate} {s p : Int} {os : List GOut}

theorem as_few (k : Int) (hk : FewK gs) : asK k gs = gs := by
  apply List.ext_getElem (by simp [asK])
  intro i h1 h2
  have := hk i h2
  rw [getD_nat _ _ _ h2] at this
  simp only [asK, List.getElem_map, asG]
  rw [if_neg (by omega)]

theorem gcan_few (hc : CanOK gs s p os) (hk : FewK gs) : GCan gs s p os := by
  refine ⟨by rw [as_few 5 hk]; exact ⟨hc, hk⟩, fun i hi h12 => ?_⟩
  have := hk i hi
  omega

theorem pall_few (hc : CanOK gs s p os) (hk : FewK gs) : ∀ i, i ≤ gs.length → pall (gs.take i) = ((List.range i).map fun (j : Nat) => (j : Int), gs.take i)
  | 0, _ => by simp [pall]
  | i + 1, hi => by
    have ih := pall_few hc hk i (by omega)
    have hlt : i < gs.length := by omega
    have hok := hc.2.2.2.1 i hlt
    have hki := hk i hlt
    rw [getD_nat _ _ _ hlt] at hok hki
    have htk : tkG gs[i].1 = takes gs[i].1 := by unfold tkG; rw [if_neg (by omega)]
    have hget : ∀ x : Int, 0 ≤ x ∧ x < i → ((List.range i).map fun (j : Nat) => (j : Int)).getD x.toNat 0 = x := by
      intro x hx
      rw [getD_nat _ _ _ (by simp; omega)]
      simp
      omega
    have hle : (gs.take i).length = i := by simp; omega
    rw [pall_take gs i hlt, ih, take_snoc gs hlt, pstep, if_neg (by omega)]
    have e : pgate ((List.range i).map fun (j : Nat) => (j : Int)) gs[i] = gs[i] := by
      simp only [pgate, htk]
      rcases takes_cases gs[i].1 with ht | ht | ht
      · simp [ht]
      · simp only [ht, hget _ (hok.2.2.2.1 (by omega)), show (1 : Int) ≤ 1 by decide, show ¬ (2 : Int) ≤ 1 by decide, if_true, if_false]
      · simp only [ht, hget _ (hok.2.2.2.1 (by omega)), hget _ (hok.2.2.2.2.1 (by omega)), show (1 : Int) ≤ 2 by decide, show (2 : Int) ≤ 2 by decide, if_true]
    rw [e]
    simp only [hle, List.range_succ, List.map_append, List.map_cons, List.map_nil]

theorem plain_few (hc : CanOK gs s p os) (hk : FewK gs) : plainS gs s p os = (s, p, gs, os) := by
  have h := pall_few hc hk gs.length (Nat.le_refl _)
  rw [List.take_length] at h
  rw [plainS, if_pos (gcan_few hc hk), h]
  have : pout ((List.range gs.length).map fun (j : Nat) => (j : Int)) os = os := by
    apply List.ext_getElem (by simp [pout])
    intro j h1 h2
    have hj : j < os.length := h2
    have := hc.2.2.2.2 j hj
    rw [getD_nat _ _ _ hj] at this
    simp only [pout, List.getElem_map]
    rw [getD_nat _ _ _ (by simp; omega)]
    simp
    ext <;> simp
    omega
  simp only [this]
end

theorem graphSame_N (N : Nat) (hN : 9000 < N) (c : CircT) (h : WF circTy c) (S : List Int) (hS : WF (.list (.int .u32)) S) (P : List Int) (hP : WF (.list (.int .u32)) P) : bautalaw20_GraphSame N c.1 c.2.1 c.2.2.1 c.2.2.2 S P = some true := by
  obtain ⟨gs, s, p, os⟩ := c
  have hw : Wds gs := wds_of h.1
  have hS' := wdL_take (wdL_of hS) 100
  have hP' := wdL_take (wdL_of hP) 100
  have lS := short_le S
  have lP := short_le P
  simp only [bautalaw20_GraphSame, bautalaw20_GraphSame_T, run_call, few_is, Option.bind_some, lives_holds N hN, run_br, run_ret]
  by_cases hf : gs.length ≤ 150 ∧ os.length ≤ 100
  · have hl : gs.length ≤ 8000 := by omega
    have ho : os.length ≤ 8000 := by omega
    simp only [decide_eq_true hf, ref_plain N gs s p os hw (by omega) ho (by omega) (by omega), Option.bind_some]
    by_cases hp : CanOK gs s p os ∧ FewK gs
    · obtain ⟨hc, hk⟩ := hp
      have hgc := gcan_few hc hk
      have hcf : cntF gs gs.length = 0 := by
        simp only [cntF, List.take_length, List.countP_eq_zero]
        intro g hg
        obtain ⟨i, hi, rfl⟩ := List.getElem_of_mem hg
        have := hk i hi
        rw [getD_nat _ _ _ hi] at this
        simp; omega
      have hcs : cntS gs gs.length ≤ gs.length := cnt_le' _ _ _
      have hgw : gwords (S.take 100) (P.take 100) gs s p os = nats (wv (S.take 100) (P.take 100) gs) := by
        rw [gwords, if_pos hgc, as_few 8 hk, if_pos hc]
      have hwd := words_is N gs s p os _ _ hS' hP' hw ho (by omega)
      rw [if_pos hc] at hwd
      have hll : (nats (wv (S.take 100) (P.take 100) gs)).length = gs.length := by rw [nats_len, wv_len]
      have hcount : countS gs s p os = ((cntA gs gs.length : Int), (cntF gs gs.length : Int), (cntS gs gs.length : Int)) := by rw [countS, if_pos hgc]
      have j3 : bautalaw20_GraphSame_j3 N S P gs s p os = some true := by
        simp only [bautalaw20_GraphSame_j3, bautalaw20_GraphSame_j3_T, run_call, own_is N gs os (by omega) (by omega), real_count N gs s p os hw hl ho hN, real_GCan N gs s p os hw hl ho hN, decide_eq_true hgc, real_gplain N gs s p os hw hl ho hN, plain_few hc hk, same_refl N gs s p os (by omega) (by omega) (by omega) (by omega), short_is, real_gwords N gs s p os _ _ hS' hP' (by omega) (by omega) hw hl ho hN, hgw, hwd, sameL_refl N _ (by omega : (nats (wv (S.take 100) (P.take 100) gs)).length ≤ 9000000) (by omega), lives_holds N hN, Option.bind_some, run_br, run_ret, hcount, hcf]
        simp
        omega
      simp only [decide_eq_true (And.intro hc hk), j3]
      simp
    · simp [hp]
  · simp [hf]

theorem graphSame_law (c : CircT) (h : WF circTy c) (S : List Int) (hS : WF (.list (.int .u32)) S) (P : List Int) (hP : WF (.list (.int .u32)) P) : bautalaw20_GraphSame 9001 c.1 c.2.1 c.2.2.1 c.2.2.2 S P = some true := graphSame_N 9001 (by omega) c h S hS P hP
end Go.Proofs.YtgdbnamlnemfmaaV
