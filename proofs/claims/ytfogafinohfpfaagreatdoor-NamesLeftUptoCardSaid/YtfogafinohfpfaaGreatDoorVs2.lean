/- A round of a range over a function. -/
import Derived.Test.YtfogafinohfpfaaGreatDoorVs
namespace Go.Proofs.YtfogafinohfpfaaGreatDoorV
open Go.RowKit
set_option linter.unusedVariables false
set_option linter.unusedSimpArgs false

theorem zip_foldl (ps : Array Tmp) (us : List Value) (vs : Array Value) : (ps.zip us.toArray).foldl (fun tmps (x : Tmp × Value) => match x with | (t, a) => tmps.setIfInBounds t a) vs = (ps.toList.zip us).foldl (fun tmps (p : Nat × Value) => tmps.setIfInBounds p.1 p.2) vs := by
  rw [← Array.foldl_toList]
  simp

theorem around_ok {A : Ann} (hD : DOK A.cx) (hm : A.cx.P.follows .mixedOrders = true) {f : FuncId} (hfb : fnB f = false) (hin : A.inr = true) {avs : List AV} {m : Rows} {pn : Bool} {res : AV} {m' : Rows}
    (hT : ∀ ps assign body, LA f = some (ps, assign, body) → (TOK A assign ∧ LOK A assign) ∧ TOK A body ∧ LOK A body) (h : around A f avs m = some (pn, res, m')) : CallOK A.cx.P f A.mm avs m pn res m' := by
  intro w Im ρ vals hrs hv hnew
  unfold around at h
  split at h
  · rename_i args q ps assign body hsp hLA
    split at h
    · rename_i e0 sz0 id' s0 l0 hl
      cases hc1 : Nat.beq id' f && (Nat.beq args.length ps.size && (Nat.blt q A.mm && Nat.ble A.mm m.length)) with
      | false => rw [hc1] at h; cases h
      | true =>
      rw [hc1] at h
      simp only [cond_true] at h
      simp only [Bool.and_eq_true, Nat.beq_eq, Nat.blt_eq, Nat.ble_eq] at hc1
      obtain ⟨rfl, hlen, hqm, hmm⟩ := hc1
      cases hc2 : Nat.beq s0 0 with
      | false => rw [hc2] at h; cases h
      | true =>
      rw [hc2] at h
      simp only [cond_true] at h
      obtain rfl := Nat.eq_of_beq_eq_true hc2
      obtain ⟨⟨hTa, hLa⟩, hTb, hLb⟩ := hT ps assign body hLA
      have havs := splitY_ok hsp
      subst havs
      obtain ⟨us, ys, rfl, hus, hys⟩ := VRs_split hv
      obtain ⟨y, rfl, hy⟩ := VRs_one.1 hys
      obtain ⟨p1, p2, p3⟩ := hrs.row _ _ hl
      cases hρ : ρ q with
      | unborn => rw [hρ] at p3; exact p3.elim
      | gone => rw [hρ] at p3; exact p3.elim
      | virt => rw [hρ] at p3; cases p3.2
      | blk g n0 c0 =>
      rw [hρ] at p3
      obtain ⟨_, rec, hg, hLA2, hst, hlv⟩ := p3
      simp only [VR, hρ] at hy
      subst hy
      rw [hLA] at hLA2
      simp only [Option.some.injEq, Prod.mk.injEq] at hLA2
      obtain ⟨rfl, rfl, rfl⟩ := hLA2
      have hlu := VRs_len hus
      unfold Goes
      rw [hfb]
      refine ⟨us, g, rec.fn, _, rec.assign, rec.body, rfl, run_yield hg (by simp [hlu, hlen]), ?_⟩
      have hzip := zip_foldl rec.params us rec.tmps
      rw [hzip]
      let tm : Array Value := (rec.params.toList.zip us).foldl (fun tmps (p : Nat × Value) => tmps.setIfInBounds p.1 p.2) rec.tmps
      let c : Cst := ⟨w, Im, ρ, A.mm, false, []⟩
      have htv : VRs w Im ρ (setAll l0 rec.params.toList args) tm.toList := setAll_ok hlv hus
      have hs : SR c Im ρ (setAll l0 rec.params.toList args) m { tmps := tm, defers := [] } w :=
        ⟨hrs, by rw [← VRs_len htv]; simp, htv, Marks.nil, Kp.refl _ _, fun _ h => h, fun _ h => .inl h, fun _ h => .inr h, fun _ _ => .inl rfl⟩
      have hroot : ∀ {ρ' : Nat → Loc}, (ρ' q = ρ q ∨ ρ' q = .gone) → ∀ g' n' c', ρ' q = .blk g' n' c' → g' = g := by
        rintro ρ' (e | e) g' n' c' e2
        · rw [e, hρ] at e2; cases e2; rfl
        · rw [e] at e2; cases e2
      refine roundIn_of_wpIn (F := Fence.wide) trivial ?_
      show rec.assign.wpIn (FW (some g)) 0 A.cx.P _ _ w
      refine aexec_sound hD hm (rd := some g) (fun _ => hin) (c := c) rfl (fun h => by cases h) rec.assign hTa hLa _ _ (pn, res, m') _ Im ρ _ w h hmm (fun q hq => hnew q hq) hs ⟨?_, ?_⟩
      · intro e st Im1 ρ1 a1 w1 he hk hnx hf1 hs1
        cases e with
        | normal =>
          simp only at hk
          split at hk
          · rename_i m1 hm1
            obtain ⟨rec1, hg1, hst1, hput⟩ := putSt_ok hs1 hm1 (hroot (hs1.root q hqm)) hqm
            refine ⟨_, run_beginRound hg1 hst1.1, ?_⟩
            have hs2 := hput { rec1 with state := .busy } rfl rfl rfl rfl ⟨rfl, hst1.2⟩
            show rec.body.wpIn (FW (some g)) 0 A.cx.P _ a1 _
            refine aexec_sound hD hm (rd := some g) (fun _ => hin) (c := c) rfl (fun h => by cases h) rec.body hTb hLb _ _ (pn, res, m') _ Im1 ρ1 _ _ hk hnx hf1 hs2 ⟨?_, ?_⟩
            · intro e2 st2 Im2 ρ2 a2 w2 he2 hk2 hnx2 hf2 hs2
              unfold finishR at hk2
              split at hk2
              · rename_i s hs0
                split at hk2
                · rename_i m2 hm2
                  simp only [Option.some.injEq, Prod.mk.injEq] at hk2
                  obtain ⟨rfl, hres, hrows⟩ := hk2
                  obtain ⟨rec2, hg2, hst2, hput2⟩ := putSt_ok hs2 hm2 (hroot (hs2.root q hqm)) hqm
                  have fin : ∀ (j : Option Code), Nat.beq s 0 = j.isNone → LoopSt s { rec2 with state := if j.isNone then .ready else .done, pending := j } →
                      ∃ v w', (Instr.endRound g j).run A.cx.P w2 = .ok v w' ∧ (fun e w' => ∃ v Im' ρ', e = endOf false v ∧ RS w' Im' ρ' m' ∧ VR w' Im' ρ' res v ∧ Kp (ownB ρ) w w' ∧ (∀ b, Im b → Im' b) ∧
                        (∀ b, Im' b → Im b ∨ w.heap.size ≤ b ∨ ownB ρ b) ∧ (∀ b, ownB ρ' b → w.heap.size ≤ b ∨ ownB ρ b) ∧ (∀ q, q < A.mm → ρ' q = ρ q ∨ ρ' q = .gone)) (.returned v) w' := by
                    intro j hj hst'
                    have hs3 := hput2 { rec2 with state := if j.isNone then .ready else .done, pending := j } rfl rfl rfl rfl hst'
                    obtain ⟨Im3, ρ3, h1, h2, h3, h4, h5, h6, h7⟩ := hs3.ends (v := .bool (Nat.beq s 0)) (u := .bool j.isNone) (by rw [hj]; rfl) (mm := A.mm) (n := 200) rfl
                    have h1' := h1
                    simp only [AV.refs] at h1'
                    rw [hrows] at h1'
                    have h2' : VR _ Im3 ρ3 (.bool (Nat.beq s 0)) (.bool j.isNone) := h2
                    rw [hres] at h2'
                    exact ⟨_, _, run_endRound j hg2, .bool j.isNone, Im3, ρ3, rfl, h1', h2', h3, h4, h5, h6, h7⟩
                  cases e2 with
                  | normal =>
                    simp only [stOf, Option.some.injEq] at hs0
                    subst hs0
                    exact fin none rfl ⟨rfl, rfl⟩
                  | ret =>
                    simp only [stOf, Option.some.injEq] at hs0
                    subst hs0
                    exact fin (some .ret) rfl ⟨rfl, rfl⟩
                  | exit i =>
                    simp only [stOf, Option.some.injEq] at hs0
                    subst hs0
                    have e3 : 3 + i = i + 3 := Nat.add_comm _ _
                    exact fin (some (.exit i)) (by rw [e3]; rfl) (by rw [e3]; exact ⟨rfl, rfl⟩)
                  | _ => cases hs0
                · cases hk2
              · cases hk2
            · intro v u t2 m2 nx2 Im2 ρ2 a2 w2 hk2 _ _ _
              simp only [finishR, stOf] at hk2
              cases hk2
          · cases hk
        | _ => cases hk
      · intro v u t2 m2 nx2 Im2 ρ2 a2 w2 hk2 _ _ _
        cases hk2
    · cases h
  · cases h
end Go.Proofs.YtfogafinohfpfaaGreatDoorV
