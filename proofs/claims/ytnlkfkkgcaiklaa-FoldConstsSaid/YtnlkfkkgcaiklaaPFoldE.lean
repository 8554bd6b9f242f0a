/- Gates of use, and a circuit of these alone. Plain. -/
import Derived.Test.YtnlkfkkgcaiklaaPFoldD
namespace Go.Proofs.YtnlkfkkgcaiklaaV
set_option linter.unusedVariables false
set_option linter.unusedSimpArgs false

/-! ### Of use -/
def ustep (gs : List Gate) (i : Nat) (u : List Bool) : List Bool :=
  let g := gs.getD i g0
  let u1 := u.set i (u.getD i false || isIn g)
  if u1.getD i false = true then
    let u2 := if 1 ≤ takes g.1 then u1.set g.2.1.toNat true else u1
    if 2 ≤ takes g.1 then u2.set g.2.2.1.toNat true else u2
  else u1
def ugo (gs : List Gate) : Nat → List Bool → List Bool
  | 0, u => u
  | i + 1, u => ugo gs i (ustep gs i u)
def marks (n : Nat) (os : List GOut) : List Bool := os.foldl (fun u o => u.set o.2.toNat true) (List.replicate n false)
def usedG (gs : List Gate) (os : List GOut) : List Bool := ugo gs gs.length (marks gs.length os)

theorem set_mono {u : List Bool} {x i : Nat} {b : Bool} (h : u.getD x false = true) (hb : u.getD i false = true → b = true) : (u.set i b).getD x false = true := by
  by_cases e : i = x
  · subst e
    by_cases hl : i < u.length
    · rw [getD_set_eq _ _ _ hl]; exact hb h
    · rw [getD_over _ _ (by omega)] at h; cases h
  · rw [getD_set_ne _ _ _ e]; exact h

theorem ustep_len (gs : List Gate) (i : Nat) (u : List Bool) : (ustep gs i u).length = u.length := by
  unfold ustep
  simp only
  split
  · split <;> split <;> simp
  · simp
theorem ustep_mono {gs : List Gate} {i x : Nat} {u : List Bool} (h : u.getD x false = true) : (ustep gs i u).getD x false = true := by
  have h1 : (u.set i (u.getD i false || isIn (gs.getD i g0))).getD x false = true := set_mono h (fun hh => by rw [hh]; rfl)
  unfold ustep
  simp only
  split
  · split <;> split
    · exact set_mono (set_mono h1 (fun _ => rfl)) (fun _ => rfl)
    · exact set_mono h1 (fun _ => rfl)
    · exact set_mono h1 (fun _ => rfl)
    · exact h1
  · exact h1
theorem ugo_mono {gs : List Gate} {x : Nat} : ∀ {i : Nat} {u : List Bool}, u.getD x false = true → (ugo gs i u).getD x false = true
  | 0, u, h => h
  | i + 1, u, h => by rw [ugo]; exact ugo_mono (ustep_mono h)
theorem ugo_len (gs : List Gate) : ∀ (i : Nat) (u : List Bool), (ugo gs i u).length = u.length
  | 0, _ => rfl
  | i + 1, u => by rw [ugo, ugo_len gs i, ustep_len]

theorem ustep_hi {gs : List Gate} {s p : Int} (hc : AllOK gs s p) {i : Nat} (hi : i < gs.length) {x : Nat} (hx : i < x) (u : List Bool) : (ustep gs i u).getD x false = u.getD x false := by
  have hok := hc i hi
  unfold ustep
  simp only
  generalize gs.getD i g0 = g at *
  split
  · split <;> split
    · rename_i h2 h1
      have a1 := hok.2.2.2.1 h1
      have a2 := hok.2.2.2.2.1 h2
      rw [getD_set_ne _ _ _ (by omega), getD_set_ne _ _ _ (by omega), getD_set_ne _ _ _ (by omega)]
    · omega
    · rename_i h2 h1
      have a1 := hok.2.2.2.1 h1
      rw [getD_set_ne _ _ _ (by omega), getD_set_ne _ _ _ (by omega)]
    · rw [getD_set_ne _ _ _ (by omega)]
  · rw [getD_set_ne _ _ _ (by omega)]

theorem ugo_hi {gs : List Gate} {s p : Int} (hc : AllOK gs s p) {x : Nat} : ∀ {i : Nat} (u : List Bool), i ≤ gs.length → i ≤ x → (ugo gs i u).getD x false = u.getD x false
  | 0, u, _, _ => rfl
  | i + 1, u, h1, h2 => by rw [ugo, ugo_hi hc _ (by omega) (by omega), ustep_hi hc (by omega) (by omega)]

/-- What a gate of use hangs on is of use, and inputs are. -/
def Closed (gs : List Gate) (u : List Bool) : Prop := ∀ j, j < gs.length → (isIn (gs.getD j g0) = true → u.getD j false = true) ∧
  (u.getD j false = true → (1 ≤ takes (gs.getD j g0).1 → u.getD (gs.getD j g0).2.1.toNat false = true) ∧ (2 ≤ takes (gs.getD j g0).1 → u.getD (gs.getD j g0).2.2.1.toNat false = true))

theorem ugo_closed {gs : List Gate} {s p : Int} (hc : AllOK gs s p) : ∀ {i : Nat} {u : List Bool}, i ≤ gs.length → u.length = gs.length → ∀ j, j < i → (isIn (gs.getD j g0) = true → (ugo gs i u).getD j false = true) ∧
    ((ugo gs i u).getD j false = true → (1 ≤ takes (gs.getD j g0).1 → (ugo gs i u).getD (gs.getD j g0).2.1.toNat false = true) ∧ (2 ≤ takes (gs.getD j g0).1 → (ugo gs i u).getD (gs.getD j g0).2.2.1.toNat false = true))
  | 0, u, _, _, j, hj => by omega
  | i + 1, u, hi, hu, j, hj => by
    rw [ugo]
    rcases Nat.lt_or_ge j i with hji | hji
    · exact ugo_closed hc (by omega) (by rw [ustep_len]; exact hu) j hji
    · obtain rfl : j = i := by omega
      have hok := hc j (by omega)
      have e : (ugo gs j (ustep gs j u)).getD j false = (ustep gs j u).getD j false := ugo_hi hc _ (by omega) (Nat.le_refl _)
      rw [e]
      have h0 : (u.set j (u.getD j false || isIn (gs.getD j g0))).getD j false = (u.getD j false || isIn (gs.getD j g0)) := getD_set_eq _ _ _ (by omega)
      have e2 : (ustep gs j u).getD j false = (u.getD j false || isIn (gs.getD j g0)) := by
        unfold ustep
        simp only
        rw [h0]
        split
        · rename_i ht
          rw [ht] at h0 ⊢
          split <;> split
          · exact set_mono (set_mono h0 (fun _ => rfl)) (fun _ => rfl)
          · exact set_mono h0 (fun _ => rfl)
          · exact set_mono h0 (fun _ => rfl)
          · exact h0
        · exact h0
      refine ⟨fun h => by rw [e2, h]; simp, fun h => ⟨fun h1 => ugo_mono ?_, fun h2 => ugo_mono ?_⟩⟩
      · rw [e2] at h
        have a1 := hok.2.2.2.1 h1
        unfold ustep
        simp only
        rw [h0, if_pos h, if_pos h1]
        have hset : ((u.set j (u.getD j false || isIn (gs.getD j g0))).set (gs.getD j g0).2.1.toNat true).getD (gs.getD j g0).2.1.toNat false = true := getD_set_eq _ _ _ (by rw [List.length_set]; omega)
        split
        · exact set_mono hset (fun _ => rfl)
        · exact hset
      · rw [e2] at h
        have a1 := hok.2.2.2.2.1 h2
        unfold ustep
        simp only
        rw [h0, if_pos h, if_pos h2]
        refine getD_set_eq _ _ _ ?_
        split <;> simp only [List.length_set] <;> omega

theorem marks_len (n : Nat) (os : List GOut) : (marks n os).length = n := by
  have H : ∀ (os : List GOut) (u : List Bool), (os.foldl (fun u o => u.set o.2.toNat true) u).length = u.length := by
    intro os
    induction os with
    | nil => intro u; rfl
    | cons o os ih => intro u; rw [List.foldl_cons, ih, List.length_set]
  rw [marks, H, List.length_replicate]
theorem marks_in (n : Nat) (os : List GOut) : ∀ o ∈ os, o.2.toNat < n → (marks n os).getD o.2.toNat false = true := by
  have M : ∀ (os : List GOut) (u : List Bool) (x : Nat), u.getD x false = true → (os.foldl (fun u o => u.set o.2.toNat true) u).getD x false = true := by
    intro os
    induction os with
    | nil => intro u x h; exact h
    | cons o os ih => intro u x h; exact ih _ _ (set_mono h (fun _ => rfl))
  have H : ∀ (os : List GOut) (u : List Bool), ∀ o ∈ os, o.2.toNat < u.length → (os.foldl (fun u o => u.set o.2.toNat true) u).getD o.2.toNat false = true := by
    intro os
    induction os with
    | nil => intro u o ho; cases ho
    | cons o os ih =>
      intro u q hq hl
      rcases List.mem_cons.1 hq with rfl | hq
      · rw [List.foldl_cons]; exact M os _ _ (getD_set_eq _ _ _ hl)
      · exact ih _ q hq (by rw [List.length_set]; exact hl)
  intro o ho hl
  exact H os _ o ho (by rw [List.length_replicate]; exact hl)

theorem used_closed {gs : List Gate} {s p : Int} (hc : AllOK gs s p) (os : List GOut) : Closed gs (usedG gs os) := fun j hj => ugo_closed hc (Nat.le_refl _) (marks_len _ _) j hj
theorem used_len (gs : List Gate) (os : List GOut) : (usedG gs os).length = gs.length := by rw [usedG, ugo_len, marks_len]
theorem used_out (gs : List Gate) (os : List GOut) {o : GOut} (ho : o ∈ os) (h : o.2.toNat < gs.length) : (usedG gs os).getD o.2.toNat false = true := ugo_mono (marks_in _ _ o ho h)

/-! ### Those alone -/
def lstep (gs : List Gate) (u : List Bool) (st : List Int × List Gate) (i : Nat) : List Int × List Gate :=
  let g := gs.getD i g0
  if u.getD i false = true then (st.1.set i (st.2.length : Int), st.2 ++ [(g.1, (if 1 ≤ takes g.1 then st.1.getD g.2.1.toNat 0 else g.2.1, (if 2 ≤ takes g.1 then st.1.getD g.2.2.1.toNat 0 else g.2.2.1, (g.2.2.2.1, g.2.2.2.2))))]) else st
def liveN (gs : List Gate) (u : List Bool) (i : Nat) : List Int × List Gate := (List.range i).foldl (lstep gs u) (List.replicate gs.length 0, [])
theorem liveN_succ (gs : List Gate) (u : List Bool) (i : Nat) : liveN gs u (i + 1) = lstep gs u (liveN gs u i) i := by
  rw [liveN, List.range_succ, List.foldl_append]
  rfl
def outsAt (now : List Int) (os : List GOut) : List GOut := os.map fun o => (o.1, now.getD o.2.toNat 0)
def liveG (gs : List Gate) (os : List GOut) : List Gate × List GOut :=
  ((liveN gs (usedG gs os) gs.length).2, outsAt (liveN gs (usedG gs os) gs.length).1 os)

theorem live_at {s p : Int} {gs : List Gate} {u : List Bool} (hc : AllOK gs s p) (hf : FewK gs) (hw : Wds gs) (hu : Closed gs u) : ∀ i, i ≤ gs.length →
    (liveN gs u i).1.length = gs.length ∧
    (∀ j, j < i → u.getD j false = true → In (liveN gs u i).2 ((liveN gs u i).1.getD j 0) ∧ (∀ S P, Wat S P (liveN gs u i).2 ((liveN gs u i).1.getD j 0) = Wat S P gs j) ∧ sec (liveN gs u i).2 ((liveN gs u i).1.getD j 0) = sec gs j) ∧
    AllOK (liveN gs u i).2 s p ∧ FewK (liveN gs u i).2 ∧ Wds (liveN gs u i).2 ∧ (liveN gs u i).2.length ≤ i ∧ wt (liveN gs u i).2 ≤ wt (gs.take i) ∧ inps (liveN gs u i).2 = inps (gs.take i) ∧
    (wt (liveN gs u i).2 = wt (gs.take i) → (liveN gs u i).2 = gs.take i ∧ ∀ j, j < i → u.getD j false = true ∧ (liveN gs u i).1.getD j 0 = (j : Int))
  | 0, _ => ⟨by simp [liveN], fun j hj => by omega, fun i hi => by simp [liveN] at hi, fun i hi => by simp [liveN] at hi, fun i hi => by simp [liveN] at hi, Nat.le_refl _, Nat.le_refl _, rfl, fun _ => ⟨rfl, fun j hj => by omega⟩⟩
  | i + 1, hi => by
    obtain ⟨h1, h2, h3, h4, h5, h6, h7, h8, h9⟩ := live_at hc hf hw hu i (by omega)
    have hlt : i < gs.length := hi
    have hok := hc i hlt
    have hk := hf i hlt
    have hwi := hw i hlt
    have hui := hu i hlt
    have hin : In gs (i : Int) := by unfold In; omega
    obtain ⟨j0, hj0, e0, hg0, hok0, hwat, hsec⟩ := hin.ok hc
    obtain rfl : i = j0 := by omega
    have hgi : gs.getD i g0 = gs[i] := getD_nat _ _ _ hlt
    have h1w : wt [gs[i]] = wk gs[i].1 := by simp [wt]
    have hwt : wt (gs.take (i + 1)) = wt (gs.take i) + wk gs[i].1 := by rw [take_snoc _ hlt, wt_app, h1w]
    have hinps : inps (gs.take (i + 1)) = inps (gs.take i) ++ (if isIn gs[i] = true then [gs[i]] else []) := by
      rw [take_snoc _ hlt]
      simp only [inps, List.filter_append]
      congr 1
      cases h : isIn gs[i] <;> simp [h]
    have hkp := wk_pos gs[i].1
    rw [liveN_succ]
    generalize liveN gs u i = st at *
    obtain ⟨now, out⟩ := st
    simp only at h1 h2 h3 h4 h5 h6 h7 h8 h9
    unfold lstep
    simp only
    rw [hgi] at hok hk hwi hui ⊢
    by_cases hus : u.getD i false = true
    · rw [if_pos hus]
      simp only
      obtain ⟨hk0, a0, a0', a1, a2, hn, hcc⟩ := hok
      have hA : 1 ≤ takes gs[i].1 → In out (now.getD gs[i].2.1.toNat 0) ∧ (∀ S P, Wat S P out (now.getD gs[i].2.1.toNat 0) = Wat S P gs gs[i].2.1) ∧ sec out (now.getD gs[i].2.1.toNat 0) = sec gs gs[i].2.1 := by
        intro h
        have b1 := a1 h
        have := h2 gs[i].2.1.toNat (by omega) ((hui.2 hus).1 h)
        rwa [show ((gs[i].2.1.toNat : Nat) : Int) = gs[i].2.1 by omega] at this
      have hB : 2 ≤ takes gs[i].1 → In out (now.getD gs[i].2.2.1.toNat 0) ∧ (∀ S P, Wat S P out (now.getD gs[i].2.2.1.toNat 0) = Wat S P gs gs[i].2.2.1) ∧ sec out (now.getD gs[i].2.2.1.toNat 0) = sec gs gs[i].2.2.1 := by
        intro h
        have b1 := a2 h
        have := h2 gs[i].2.2.1.toNat (by omega) ((hui.2 hus).2 h)
        rwa [show ((gs[i].2.2.1.toNat : Nat) : Int) = gs[i].2.2.1 by omega] at this
      have hcases : (takes gs[i].1 = 0 ∧ ¬ 1 ≤ takes gs[i].1 ∧ ¬ 2 ≤ takes gs[i].1) ∨ (takes gs[i].1 = 1 ∧ 1 ≤ takes gs[i].1 ∧ ¬ 2 ≤ takes gs[i].1) ∨ (takes gs[i].1 = 2 ∧ 1 ≤ takes gs[i].1 ∧ 2 ≤ takes gs[i].1) := by
        rcases takes_cases gs[i].1 with h | h | h
        · exact .inl ⟨h, by omega, by omega⟩
        · exact .inr (.inl ⟨h, by omega, by omega⟩)
        · exact .inr (.inr ⟨h, by omega, by omega⟩)
      generalize hx : (if 1 ≤ takes gs[i].1 then now.getD gs[i].2.1.toNat 0 else gs[i].2.1) = x
      generalize hy : (if 2 ≤ takes gs[i].1 then now.getD gs[i].2.2.1.toNat 0 else gs[i].2.2.1) = y
      have hx1 : 1 ≤ takes gs[i].1 → In out x ∧ (∀ S P, Wat S P out x = Wat S P gs gs[i].2.1) ∧ sec out x = sec gs gs[i].2.1 := by
        intro h; rw [← hx, if_pos h]; exact hA h
      have hy1 : 2 ≤ takes gs[i].1 → In out y ∧ (∀ S P, Wat S P out y = Wat S P gs gs[i].2.2.1) ∧ sec out y = sec gs gs[i].2.2.1 := by
        intro h; rw [← hy, if_pos h]; exact hB h
      have hx0 : takes gs[i].1 < 1 → x = 0 := by intro h; rw [← hx, if_neg (by omega)]; exact a0 h
      have hy0 : takes gs[i].1 < 2 → y = 0 := by intro h; rw [← hy, if_neg (by omega)]; exact a0' h
      have hse : secOf out gs[i].1 x y = secOf gs gs[i].1 gs[i].2.1 gs[i].2.2.1 := by
        simp only [secOf]
        rcases hcases with ⟨ht, _, _⟩ | ⟨ht, q1, _⟩ | ⟨ht, q1, q2⟩
        · simp [ht]
        · rw [(hx1 q1).2.2]; simp [ht]
        · rw [(hx1 q1).2.2, (hy1 q2).2.2]
      have heq : out ++ [(gs[i].1, (x, (y, (gs[i].2.2.2.1, gs[i].2.2.2.2))))] = (app out gs[i].1 x y gs[i].2.2.2.1).2 := by
        unfold app
        simp only
        rw [hse, ← hcc]
      have happ := AllOK.app h3 (n := gs[i].2.2.2.1) hk0 hx0 hy0 (fun h => (hx1 h).1) (fun h => (hy1 h).1) hn
      have hh := fun S P => Hd.new (S := S) (P := P) out gs[i].1 x y gs[i].2.2.2.1
      have hlen : (app out gs[i].1 x y gs[i].2.2.2.1).1 = (out.length : Int) := rfl
      refine ⟨by rw [List.length_set]; exact h1, fun j hj huj => ?_, ?_, ?_, ?_, by simp; omega, ?_, ?_, fun he => ?_⟩
      · rcases Nat.lt_or_ge j i with hji | hji
        · rw [getD_set_ne _ _ _ (by omega)]
          obtain ⟨q1, q2, q3⟩ := h2 j hji huj
          exact ⟨In_app q1 _, fun S P => (Wat_app q1 _ S P).trans (q2 S P), (sec_app q1 _).trans q3⟩
        · obtain rfl : j = i := by omega
          rw [getD_set_eq _ _ _ (by omega), heq, ← hlen]
          refine ⟨(hh [] []).1, fun S P => ?_, ?_⟩
          · rw [(hh S P).2.2, hwat]
            exact ev_congr hk0 (fun h => (hx1 h).2.1 S P) (fun h => (hy1 h).2.1 S P)
          · rw [(hh [] []).2.1, hse, hsec]
      · rw [heq]; exact happ
      · intro j hj
        rcases Nat.lt_or_ge j out.length with h | h
        · rw [getD_left _ _ _ h]; exact h4 j h
        · rw [getD_last _ _ _ (by simp at hj; omega)]; exact hk
      · intro j hj
        rcases Nat.lt_or_ge j out.length with h | h
        · rw [getD_left _ _ _ h]; exact h5 j h
        · rw [getD_last _ _ _ (by simp at hj; omega)]; exact hwi
      · rw [wt_app, hwt]
        have : wt [(gs[i].1, (x, (y, (gs[i].2.2.2.1, gs[i].2.2.2.2))))] = wk gs[i].1 := by simp [wt]
        omega
      · rw [hinps]
        simp only [inps, List.filter_append] at h8 ⊢
        rw [h8]
        congr 1
        by_cases hii : isIn gs[i] = true
        · have hkk : gs[i].1 = 1 ∨ gs[i].1 = 2 := by simpa [isIn] using hii
          have ht : takes gs[i].1 = 0 := by rcases hkk with h | h <;> rw [h] <;> rfl
          have ex := hx0 (by omega)
          have ey := hy0 (by omega)
          have ea := a0 (by omega)
          have eb := a0' (by omega)
          have : (gs[i].1, (x, (y, (gs[i].2.2.2.1, gs[i].2.2.2.2)))) = gs[i] := by
            rw [ex, ey]
            exact Prod.ext rfl (Prod.ext ea.symm (Prod.ext eb.symm rfl))
          rw [this]
          simp [hii]
        · have : ¬ isIn (gs[i].1, (x, (y, (gs[i].2.2.2.1, gs[i].2.2.2.2)))) = true := by simpa [isIn] using hii
          simp [hii, this]
      · have hwx : wt [(gs[i].1, (x, (y, (gs[i].2.2.2.1, gs[i].2.2.2.2))))] = wk gs[i].1 := by simp [wt]
        rw [wt_app, hwt, hwx] at he
        obtain ⟨f1, f2⟩ := h9 (by omega)
        have lt : out.length = i := by rw [f1]; simp; omega
        have ex : x = gs[i].2.1 := by
          rw [← hx]
          split
          · rename_i h
            have b1 := a1 h
            rw [(f2 _ (by omega : gs[i].2.1.toNat < i)).2]; omega
          · rfl
        have ey : y = gs[i].2.2.1 := by
          rw [← hy]
          split
          · rename_i h
            have b1 := a2 h
            rw [(f2 _ (by omega : gs[i].2.2.1.toNat < i)).2]; omega
          · rfl
        refine ⟨by rw [f1, ex, ey, take_snoc _ hlt], fun j hj => ?_⟩
        rcases Nat.lt_or_ge j i with hji | hji
        · rw [getD_set_ne _ _ _ (by omega)]
          exact f2 j hji
        · obtain rfl : j = i := by omega
          rw [getD_set_eq _ _ _ (by omega), lt]
          exact ⟨hus, rfl⟩
    · rw [if_neg hus]
      have hii : ¬ isIn gs[i] = true := fun h => hus (hui.1 h)
      refine ⟨h1, fun j hj huj => ?_, h3, h4, h5, by simp only; omega, by simp only; omega, by rw [hinps, if_neg hii, List.append_nil]; exact h8, fun he => by simp only at he; exfalso; omega⟩
      rcases Nat.lt_or_ge j i with hji | hji
      · exact h2 j hji huj
      · obtain rfl : j = i := by omega
        exact absurd huj hus
end Go.Proofs.YtnlkfkkgcaiklaaV
