/- Once, and until nothing changes: the program's functions are the plain ones, and what they keep. -/
import Derived.Test.YtnlkfkkgcaiklaaPFoldE
namespace Go.Proofs.YtnlkfkkgcaiklaaV
set_option linter.unusedVariables false
set_option linter.unusedSimpArgs false

/-! ### The program's functions -/
theorem used_is (N : Nat) {gs : List Gate} {os : List GOut} {s p : Int} (hc : AllOK gs s p) (hl : gs.length ≤ 8000) (ho : ∀ j, j < os.length → 0 ≤ (os.getD j (ByteArray.empty, 0)).2 ∧ (os.getD j (ByteArray.empty, 0)).2 < gs.length) (hol : os.length ≤ 8000) (hN : 8001 < N) :
    fold_used N gs os = some (usedG gs os) := by
  have l3 : fold_used_l3 N os os.length (0, List.replicate gs.length false) = some (marks gs.length os) := by
    unfold fold_used_l3
    have := loop_up (s := fun v => fold_used_l3_T N os os.length v.1 v.2) (fun i : Nat => ((i : Int), (marks gs.length (os.take i)))) os.length (marks gs.length os) (k := 0) (m := N) (by omega) (by omega) (fun i _ hi => ?_) ?_
    · exact this
    · have hg : os.getD i (ByteArray.empty, 0) = os[i] := getD_nat _ _ _ hi
      have hb := ho i hi
      rw [hg] at hb
      simp only [fold_used_l3_T, run_br, run_ret, ltI_eq, decide_eq_true_eq, inRange_iff, toNat_nat, hg, marks_len, i64_succ (i := i) (by omega)]
      have em : marks gs.length (os.take (i + 1)) = (marks gs.length (os.take i)).set os[i].2.toNat true := by
        rw [marks, take_snoc _ hi, List.foldl_append]; rfl
      rw [if_pos (by omega), if_pos (by omega), if_pos hb, em]
    · simp [fold_used_l3_T]
  have j13 : ∀ (i : Nat) (u : List Bool) (k b : Int), i < u.length → (u.getD i false = true → 2 ≤ takes k → 0 ≤ b ∧ b < u.length) → k ≤ 11 → 0 ≤ k →
      fold_used_round8_j13 N i k b u = some (if u.getD i false = true ∧ 2 ≤ takes k then u.set b.toNat true else u) := by
    intro i u k b hi hb hk hk0
    simp only [fold_used_round8_j13, fold_used_round8_j13_T, run_br, run_call, run_ret, inRange_iff, toNat_nat, both_is, takes_both, Option.bind_some, decide_eq_true_eq]
    rw [if_pos (by omega)]
    by_cases hu : u.getD i false = true
    · rw [if_pos hu]
      by_cases h2 : takes k = 2
      · rw [if_pos h2, if_pos (hb hu (by omega)), if_pos ⟨hu, by omega⟩]
      · rw [if_neg h2, if_neg (fun hh => by have := hh.2; rcases takes_cases k with h | h | h <;> omega)]
    · rw [if_neg hu, if_neg (fun h => hu h.1)]
  have rnd : ∀ (i : Nat) (u : List Bool), i < gs.length → u.length = gs.length → fold_used_round8 N i (gs.getD i g0).1 (gs.getD i g0).2.1 (gs.getD i g0).2.2.1 u = some (ustep gs i u) := by
    intro i u hi hu
    have hok := hc i hi
    unfold ustep
    simp only
    generalize gs.getD i g0 = g at *
    obtain ⟨k, a, b, n, c⟩ := g
    obtain ⟨hk, h0, h0', h1, h2, hn, hcc⟩ := hok
    simp only at hk h0 h0' h1 h2 hn hcc ⊢
    have key : ∀ v : List Bool, v.length = gs.length → fold_used_round8_j11 N i k a b v = some (if v.getD i false = true then (if 2 ≤ takes k then (if 1 ≤ takes k then v.set a.toNat true else v).set b.toNat true else (if 1 ≤ takes k then v.set a.toNat true else v)) else v) := by
      intro v hv
      simp only [fold_used_round8_j11, fold_used_round8_j11_T, run_br, run_call, run_ret, inRange_iff, toNat_nat, one_is, both_is, takes_one, takes_both, Option.bind_some, decide_eq_true_eq]
      rw [if_pos (by omega)]
      by_cases hvi : v.getD i false = true
      · simp only [hvi, if_true]
        have hset : (v.set a.toNat true).getD i false = true := set_mono hvi (fun _ => rfl)
        rcases takes_cases k with ht | ht | ht
        · rw [if_neg (by omega), if_neg (by omega), j13 i v k b (by omega) (fun _ h => absurd h (by omega)) (by omega) hk.1, Option.bind_some, if_neg (fun h => absurd h.2 (by omega))]
          simp [ht]
        · rw [if_pos ht, if_pos (by have := h1 (by omega); omega), j13 i _ k b (by rw [List.length_set]; omega) (fun _ h => absurd h (by omega)) (by omega) hk.1, Option.bind_some, if_neg (fun h => absurd h.2 (by omega))]
          simp [ht]
        · rw [if_neg (by omega), if_pos ht, if_pos (by have := h1 (by omega); omega), j13 i _ k b (by rw [List.length_set]; omega) (by intro _ _; rw [List.length_set]; have := h2 (by omega); omega) (by omega) hk.1, Option.bind_some, if_pos ⟨hset, by omega⟩]
          simp [ht]
      · rw [if_neg hvi, if_neg hvi, j13 i v k b (by omega) (fun h => absurd h hvi) (by omega) hk.1, Option.bind_some, if_neg (fun h => hvi h.1)]
    simp only [fold_used_round8, fold_used_round8_T, run_br, run_call, run_ret, inRange_iff, toNat_nat, input_is, Option.bind_some]
    have hrg : (0 ≤ (i : Int) ∧ (i : Int) < (u.length : Int)) = True := by simp; omega
    simp only [hrg, if_true]
    by_cases hui : u.getD i false = true
    · rw [if_pos hui, key _ (by rw [List.length_set]; exact hu), Option.bind_some, hui]
      rfl
    · rw [if_neg hui, key _ (by rw [List.length_set]; exact hu), Option.bind_some]
      have : u.getD i false = false := by simpa using hui
      rw [this]
      rfl
  have l1 : ∀ (u : List Bool), u.length = gs.length → slices_Backward_1 N gs u = some (ugo gs gs.length u) := by
    intro u hu
    have hl1 : slices_Backward_1_l1 N gs ((gs.length : Int) - 1, u) = some (ugo gs gs.length u) := by
      unfold slices_Backward_1_l1
      refine loop_st (s := fun v => slices_Backward_1_l1_T N gs v.1 v.2) (fun x : Nat × List Bool => ((x.1 : Int) - 1, x.2)) (fun x => x.1) (fun x => x.1 ≤ gs.length ∧ x.2.length = gs.length) (fun x => ugo gs x.1 x.2) (fun x hx => ?_) N (gs.length, u) ⟨Nat.le_refl _, hu⟩ (by simp only; omega)
      obtain ⟨i, v⟩ := x
      obtain ⟨hi, hv⟩ := hx
      simp only at hi hv ⊢
      cases i with
      | zero => exact .inr rfl
      | succ i =>
        refine .inl ⟨(i, ustep gs i v), ?_, ⟨by simp only; omega, by simp only [ustep_len]; exact hv⟩, by simp only; omega, rfl⟩
        have e1 : (((i + 1 : Nat) : Int) - 1) = (i : Int) := by omega
        have hr := rnd i v (by omega) hv
        have e2 : IntKind.i64.wrap ((i : Int) - 1) = (i : Int) - 1 := i64_in (by omega)
        simp only [slices_Backward_1_l1_T, e1, run_br, run_call, run_ret, leI_eq, decide_eq_true_eq, inRange_iff, toNat_nat]
        rw [if_pos (by omega), if_pos (by omega)]
        rw [show (gs.getD i (0, (0, (0, (0, false))))) = gs.getD i g0 from rfl, hr, Option.bind_some, e2]
    have e1 : IntKind.i64.wrap ((gs.length : Int) - 1) = (gs.length : Int) - 1 := i64_in (by omega)
    simp only [slices_Backward_1, slices_Backward_1_T, e1, run_call, hl1, Option.bind_some, run_ret]
  simp only [fold_used, fold_used_T, run_br, run_call, run_ret, toNat_nat, l3, l1 _ (marks_len _ _), Option.bind_some, slices_Backward, slices_Backward_T, Bool.and_eq_true, leI_eq, ltI_eq, decide_eq_true_eq]
  rw [if_pos (by omega)]
  rfl

theorem live_is (N : Nat) {gs : List Gate} {os : List GOut} {s p : Int} (hc : AllOK gs s p) (hf : FewK gs) (hw : Wds gs) (hl : gs.length ≤ 8000) (ho : ∀ j, j < os.length → 0 ≤ (os.getD j (ByteArray.empty, 0)).2 ∧ (os.getD j (ByteArray.empty, 0)).2 < gs.length) (hol : os.length ≤ 8000) (hN : 8001 < N) :
    fold_live N gs os = some (liveG gs os) := by
  have hu := used_is N hc hl ho hol hN
  have hat := live_at hc hf hw (used_closed hc os)
  have hul := used_len gs os
  generalize hU : usedG gs os = u at *
  have l5 : fold_live_l5 N gs gs.length u (0, List.replicate gs.length 0, []) = some (liveN gs u gs.length) := by
    unfold fold_live_l5
    have := loop_up (s := fun v => fold_live_l5_T N gs gs.length u v.1 v.2.1 v.2.2) (fun i : Nat => ((i : Int), (liveN gs u i).1, (liveN gs u i).2)) gs.length (liveN gs u gs.length) (k := 0) (m := N) (by omega) (by omega) (fun i _ hi => ?_) ?_
    · exact this
    · obtain ⟨q1, _, _, _, _, q6, _⟩ := hat i (by omega)
      rw [liveN_succ]
      have hok := hc i hi
      have e2 : IntKind.i64.wrap ((i : Int) + 1) = ((i + 1 : Nat) : Int) := i64_succ (by omega)
      simp only [fold_live_l5_T, run_br, run_call, run_ret, ltI_eq, decide_eq_true_eq, inRange_iff, toNat_nat, one_is, both_is, takes_one, takes_both, Option.bind_some, e2, not_iffB]
      rw [if_pos (by omega), if_pos (by omega), if_pos (by omega)]
      rw [show (gs.getD i (0, (0, (0, (0, false))))) = gs.getD i g0 from rfl]
      unfold lstep
      simp only
      generalize liveN gs u i = st at *
      obtain ⟨now, out⟩ := st
      simp only at q1 q6 ⊢
      generalize gs.getD i g0 = g at *
      obtain ⟨k, a, b, n, c⟩ := g
      obtain ⟨hk, h0, h0', h1, h2, hn, hcc⟩ := hok
      simp only at hk h0 h0' h1 h2 hn hcc ⊢
      by_cases hui : u.getD i false = true
      · rw [if_neg (by simpa using hui), if_pos hui]
        have j12 : ∀ a' b' : Int, fold_live_j12 N i now k a' b' n c out = some (now.set i (out.length : Int), out ++ [(k, (a', (b', (n, c))))]) := by
          intro a' b'
          simp only [fold_live_j12, fold_live_j12_T, run_br, run_ret, inRange_iff, toNat_nat, ltI_eq, decide_eq_true_eq]
          rw [if_pos (by omega), if_pos (by omega)]
        have j10 : ∀ a' : Int, fold_live_j10 N i now k a' b n c out = some (now.set i (out.length : Int), out ++ [(k, (a', (if 2 ≤ takes k then now.getD b.toNat 0 else b, (n, c))))]) := by
          intro a'
          simp only [fold_live_j10, fold_live_j10_T, run_br, run_call, run_ret, both_is, takes_both, Option.bind_some, decide_eq_true_eq, inRange_iff, j12]
          rcases takes_cases k with ht | ht | ht
          · rw [if_neg (by omega), if_neg (by omega)]
          · rw [if_neg (by omega), if_neg (by omega)]
          · rw [if_pos ht, if_pos (by have := h2 (by omega); omega), if_pos (by omega)]
        simp only [j10, Option.bind_some]
        rcases takes_cases k with ht | ht | ht
        · simp only [ht, (by decide : ¬ ((0 : Int) = 1)), (by decide : ¬ ((0 : Int) = 2)), (by decide : ¬ (1 ≤ (0 : Int))), (by decide : ¬ (2 ≤ (0 : Int))), if_false]
        · have hra : (0 ≤ a ∧ a < (now.length : Int)) = True := by have := h1 (by omega); simp; omega
          simp only [ht, (by decide : ¬ ((1 : Int) = 2)), (by decide : (1 ≤ (1 : Int))), (by decide : ¬ (2 ≤ (1 : Int))), if_false, if_true, hra]
        · have hra : (0 ≤ a ∧ a < (now.length : Int)) = True := by have := h1 (by omega); simp; omega
          simp only [ht, (by decide : ¬ ((2 : Int) = 1)), (by decide : (1 ≤ (2 : Int))), (by decide : (2 ≤ (2 : Int))), if_false, if_true, hra]
      · rw [if_pos (by simpa using hui), if_neg hui]
    · simp [fold_live_l5_T]
  obtain ⟨q1, _⟩ := hat gs.length (Nat.le_refl _)
  have l16 : ∀ now : List Int, now.length = gs.length → fold_live_l16 N os os.length now (0, []) = some (outsAt now os) := by
    intro now hnow
    unfold fold_live_l16
    have := loop_up (s := fun v => fold_live_l16_T N os os.length now v.1 v.2) (fun i : Nat => ((i : Int), outsAt now (os.take i))) os.length (outsAt now os) (k := 0) (m := N) (by omega) (by omega) (fun i _ hi => ?_) ?_
    · exact this
    · have hg : os.getD i (ByteArray.empty, 0) = os[i] := getD_nat _ _ _ hi
      have hb := ho i hi
      rw [hg] at hb
      have hll : (outsAt now (os.take i)).length = i := by simp [outsAt]; omega
      simp only [fold_live_l16_T, run_br, run_ret, ltI_eq, decide_eq_true_eq, inRange_iff, toNat_nat, hg, i64_succ (i := i) (by omega), hll]
      rw [if_pos (by omega), if_pos (by omega), if_pos (by omega), if_pos (by omega), take_snoc _ hi]
      simp only [outsAt, List.map_append, List.map_cons, List.map_nil]
    · simp [fold_live_l16_T]
  simp only [fold_live, fold_live_T, run_br, run_call, run_ret, toNat_nat, hu, l5, l16 _ q1, Option.bind_some, Bool.and_eq_true, leI_eq, ltI_eq, decide_eq_true_eq]
  rw [if_pos (by omega)]
  unfold liveG
  rw [hU]

/-! ### A circuit that is made less -/
structure Pl (s p : Int) (c : List Gate × List GOut) : Prop where
  can : CanOK c.1 s p c.2
  few : FewK c.1
  wd : Wds c.1
  nd : (inps c.1).Nodup

abbrev o0 : GOut := (ByteArray.empty, 0)

/-- What is kept. -/
structure Pres (c d : List Gate × List GOut) : Prop where
  len : d.2.length = c.2.length
  outs : ∀ j, j < c.2.length → (d.2.getD j o0).1 = (c.2.getD j o0).1 ∧ (∀ S P, Wat S P d.1 (d.2.getD j o0).2 = Wat S P c.1 (c.2.getD j o0).2) ∧ (sec d.1 (d.2.getD j o0).2 = true → sec c.1 (c.2.getD j o0).2 = true)
  inp : inps d.1 = inps c.1
  gl : d.1.length ≤ c.1.length

theorem Pres.refl (c : List Gate × List GOut) : Pres c c := ⟨rfl, fun _ _ => ⟨rfl, fun _ _ => rfl, id⟩, rfl, Nat.le_refl _⟩
theorem Pres.trans {a b c : List Gate × List GOut} (h : Pres a b) (h' : Pres b c) : Pres a c :=
  ⟨h'.len.trans h.len, fun j hj => by
    obtain ⟨x1, x2, x3⟩ := h.outs j hj
    obtain ⟨y1, y2, y3⟩ := h'.outs j (by rw [h.len]; exact hj)
    exact ⟨y1.trans x1, fun S P => (y2 S P).trans (x2 S P), fun hh => x3 (y3 hh)⟩, h'.inp.trans h.inp, Nat.le_trans h'.gl h.gl⟩

def onceG (c : List Gate × List GOut) : List Gate × List GOut := liveG (onceM c.1).2 (outsAt (onceM c.1).1 c.2)

/-- Nothing of no use is left. -/
structure LeastC (c : List Gate × List GOut) : Prop where
  nf : ∀ j (hj : j < c.1.length), NFg (c.1.take j) c.1[j].1 c.1[j].2.1 c.1[j].2.2.1 c.1[j].2.2.2.1
  used : ∀ j, j < c.1.length → (usedG c.1 c.2).getD j false = true
  kd : (c.1.map kg).Nodup

theorem outsAt_get (now : List Int) (os : List GOut) {j : Nat} (h : j < os.length) : (outsAt now os).getD j o0 = ((os.getD j o0).1, now.getD (os.getD j o0).2.toNat 0) := by
  simp only [outsAt, List.getD_eq_getElem?_getD, List.getElem?_map, List.getElem?_eq_getElem h]
  rfl
theorem outsAt_len (now : List Int) (os : List GOut) : (outsAt now os).length = os.length := by simp [outsAt]
theorem mem_getD {α : Type} (l : List α) (d : α) {j : Nat} (h : j < l.length) : l.getD j d ∈ l := by rw [getD_nat _ _ _ h]; exact List.getElem_mem h

theorem once_pl {s p : Int} {c : List Gate × List GOut} (h : Pl s p c) :
    (∀ j, j < c.2.length → 0 ≤ ((outsAt (onceM c.1).1 c.2).getD j o0).2 ∧ ((outsAt (onceM c.1).1 c.2).getD j o0).2 < (onceM c.1).2.length) ∧
    Pl s p (onceG c) ∧ Pres c (onceG c) ∧ wt (onceG c).1 ≤ wt c.1 ∧ (wt (onceG c).1 = wt c.1 → onceG c = c ∧ LeastC c) := by
  obtain ⟨cs, os⟩ := c
  obtain ⟨⟨hs, hp, hl, hok, ho⟩, hf, hw, hnd⟩ := h
  simp only at hs hp hl hok ho hf hw hnd ⊢
  replace ho : ∀ j, j < os.length → 0 ≤ (os.getD j o0).2 ∧ (os.getD j o0).2 < (cs.length : Int) := ho
  obtain ⟨h1, h2, h3, h4, h5, h6⟩ := once_at hok hf hw hnd cs.length (Nat.le_refl _)
  rw [List.take_length] at h1 h2 h3 h4 h5 h6
  have hos : ∀ j, j < os.length → In (onceM cs).2 ((outsAt (onceM cs).1 os).getD j o0).2 := by
    intro j hj
    rw [outsAt_get _ _ hj]
    have := ho j hj
    exact (h1.2 _ (by show (os.getD j o0).2.toNat < cs.length; omega)).1
  have hat := live_at (u := usedG (onceM cs).2 (outsAt (onceM cs).1 os)) h2.ok h2.few h2.wd (used_closed h2.ok _) (onceM cs).2.length (Nat.le_refl _)
  rw [List.take_length] at hat
  obtain ⟨q1, q2, q3, q4, q5, q6, q7, q8, q9⟩ := hat
  have hu : ∀ j, j < os.length → (usedG (onceM cs).2 (outsAt (onceM cs).1 os)).getD ((outsAt (onceM cs).1 os).getD j o0).2.toNat false = true := by
    intro j hj
    have := hos j hj
    refine used_out _ _ (mem_getD _ _ (by rw [outsAt_len]; exact hj)) ?_
    unfold In at this; omega
  have hgo : ∀ j, j < os.length → (onceG (cs, os)).2.getD j o0 = ((os.getD j o0).1, (liveN (onceM cs).2 (usedG (onceM cs).2 (outsAt (onceM cs).1 os)) (onceM cs).2.length).1.getD ((outsAt (onceM cs).1 os).getD j o0).2.toNat 0) := by
    intro j hj
    simp only [onceG, liveG]
    rw [outsAt_get _ _ (by rw [outsAt_len]; exact hj), outsAt_get _ _ hj]
  have hol : (onceG (cs, os)).2.length = os.length := by simp [onceG, liveG, outsAt]
  have hq : ∀ j, j < os.length → In (onceG (cs, os)).1 ((onceG (cs, os)).2.getD j o0).2 ∧ (∀ S P, Wat S P (onceG (cs, os)).1 ((onceG (cs, os)).2.getD j o0).2 = Wat S P cs (os.getD j o0).2) ∧ (sec (onceG (cs, os)).1 ((onceG (cs, os)).2.getD j o0).2 = true → sec cs (os.getD j o0).2 = true) := by
    intro j hj
    have hin := hos j hj
    unfold In at hin
    have x := q2 _ (by omega) (hu j hj)
    have e1 : ((((outsAt (onceM cs).1 os).getD j o0).2.toNat : Nat) : Int) = ((outsAt (onceM cs).1 os).getD j o0).2 := by omega
    rw [e1] at x
    have hoj := ho j hj
    have y := h1.2 (os.getD j o0).2.toNat (by show (os.getD j o0).2.toNat < cs.length; omega)
    have e2 : (((os.getD j o0).2.toNat : Nat) : Int) = (os.getD j o0).2 := by show (((os.getD j o0).2.toNat : Nat) : Int) = _; omega
    rw [e2] at y
    have e3 : ((outsAt (onceM cs).1 os).getD j o0).2 = (onceM cs).1.getD (os.getD j o0).2.toNat 0 := by rw [outsAt_get _ _ hj]
    rw [hgo j hj]
    refine ⟨x.1, fun S P => ?_, fun hh => ?_⟩
    · exact (x.2.1 S P).trans (by rw [e3]; exact y.2.1 S P)
    · have := x.2.2.symm.trans hh
      rw [e3] at this
      exact y.2.2 this
  refine ⟨hos, ⟨⟨hs, hp, by show (onceG (cs, os)).1.length ≤ 8000; simp only [onceG, liveG]; omega, q3, fun j hj => ?_⟩, q4, q5, ?_⟩, ⟨hol, fun j hj => ⟨by rw [hgo j hj], (hq j hj).2⟩, ?_, ?_⟩, ?_, fun he => ?_⟩
  · rw [hol] at hj
    have := (hq j hj).1
    exact this
  · show (inps (onceG (cs, os)).1).Nodup
    simp only [onceG, liveG]
    rw [q8, h5]; exact hnd
  · show inps (onceG (cs, os)).1 = inps cs
    simp only [onceG, liveG]
    rw [q8, h5]
  · show (onceG (cs, os)).1.length ≤ cs.length
    simp only [onceG, liveG]; omega
  · simp only [onceG, liveG]; omega
  · simp only [onceG, liveG] at he ⊢
    obtain ⟨f1, f2⟩ := h6 (by omega)
    have e1 : (onceM cs).2 = cs := by rw [f1]
    have e2 : (onceM cs).1 = rng cs.length := by rw [f1]
    obtain ⟨f3, f4⟩ := q9 (by omega)
    have e3 : outsAt (onceM cs).1 os = os := by
      apply List.ext_getElem
      · simp [outsAt]
      · intro j hj1 hj2
        have := ho j hj2
        have g1 := outsAt_get (onceM cs).1 os hj2
        rw [getD_nat _ _ _ hj1, getD_nat _ _ _ hj2] at g1
        rw [g1, e2]
        have hoj : 0 ≤ os[j].2 ∧ os[j].2 < cs.length := by rw [getD_nat _ _ _ hj2] at this; exact this
        rw [rng_get (by omega)]
        exact Prod.ext rfl (by simp only; omega)
    rw [e3, e1] at f4 f3 ⊢
    refine ⟨?_, ⟨fun j hj => f2 j hj hj, fun j hj => (f4 j hj).1, ?_⟩⟩
    · refine Prod.ext f3 ?_
      simp only
      apply List.ext_getElem
      · simp [outsAt]
      · intro j hj1 hj2
        have := ho j hj2
        have hoj : 0 ≤ os[j].2 ∧ os[j].2 < cs.length := by rw [getD_nat _ _ _ hj2] at this; exact this
        have g1 := outsAt_get (liveN cs (usedG cs os) cs.length).1 os hj2
        rw [getD_nat _ _ _ hj1, getD_nat _ _ _ hj2] at g1
        rw [g1, (f4 _ (by omega : os[j].2.toNat < cs.length)).2]
        exact Prod.ext rfl (by simp only; omega)
    · have := h2.kd
      rw [e1] at this
      exact this

theorem once_is (N : Nat) {s p : Int} {c : List Gate × List GOut} (h : Pl s p c) (hol : c.2.length ≤ 8000) (hN : 8001 < N) : fold_once N c.1 c.2 = some (onceG c) := by
  obtain ⟨hos, _⟩ := once_pl h
  obtain ⟨cs, os⟩ := c
  obtain ⟨⟨hs, hp, hl, hok, ho⟩, hf, hw, hnd⟩ := h
  simp only at hs hp hl hok ho hf hw hnd hol hos ⊢
  have hat := once_at hok hf hw hnd
  have l4 : fold_once_l4 N cs cs.length (0, [], [], []) = some ((onceM cs).1, (onceM cs).2, mk (onceM cs).2) := by
    unfold fold_once_l4
    have := loop_up (s := fun v => fold_once_l4_T N cs cs.length v.1 v.2.1 v.2.2.1 v.2.2.2) (fun i : Nat => ((i : Int), (onceM (cs.take i)).1, (onceM (cs.take i)).2, mk (onceM (cs.take i)).2)) cs.length ((onceM cs).1, (onceM cs).2, mk (onceM cs).2) (k := 0) (m := N) (by omega) (by omega) (fun i _ hi => ?_) ?_
    · exact this
    · obtain ⟨h1, h2, h3, _⟩ := hat i (by omega)
      have hoki := hok i hi
      have hfi := hf i hi
      rw [getD_nat _ _ _ hi] at hoki hfi
      have hg : cs.getD i (0, (0, (0, (0, false)))) = cs[i] := getD_nat _ _ _ hi
      rw [onceM_take cs hi]
      have hgi := gate_is N (onceM (cs.take i)).2 (onceM (cs.take i)).1 cs[i] ⟨hoki.1.1, hfi⟩ (fun h6 => ⟨by have := hw i hi; rw [getD_nat _ _ _ hi] at this; exact this.1, hoki.2.2.2.2.2.1.2.2.1 ⟨h6, hfi⟩⟩) h2.wd (by omega)
        (fun h => by rw [h1.1]; exact hoki.2.2.2.1 h) (fun h => by rw [h1.1]; exact hoki.2.2.2.2.1 h) (fun j hj => by rw [h1.1] at hj; exact (h1.2 j hj).1)
      have c1 : ltI (i : Int) (cs.length : Int) = true := by rw [ltI_eq, decide_eq_true_eq]; omega
      have c2 : inRange (i : Int) cs.length = true := by rw [inRange_iff]; omega
      have c3 : ltI (((i : Int) + 1) * 8) 140737488355328 = true := by rw [ltI_eq, decide_eq_true_eq]; omega
      simp only [fold_once_l4_T, run_br, run_call, run_ret, c1, c2, toNat_nat, hg, hgi, Option.bind_some, i64_succ (i := i) (by omega), h1.1, mstep, c3, if_true]
    · have c1 : ltI (cs.length : Int) (cs.length : Int) = false := by rw [ltI_eq]; simp
      simp only [fold_once_l4_T, run_br, run_ret, c1, Bool.false_eq_true, if_false, List.take_length]
  obtain ⟨h1, h2, h3, _⟩ := hat cs.length (Nat.le_refl _)
  rw [List.take_length] at h1 h2 h3
  have l9 : fold_once_l9 N os os.length (onceM cs).1 (0, []) = some (outsAt (onceM cs).1 os) := by
    unfold fold_once_l9
    have := loop_up (s := fun v => fold_once_l9_T N os os.length (onceM cs).1 v.1 v.2) (fun i : Nat => ((i : Int), outsAt (onceM cs).1 (os.take i))) os.length (outsAt (onceM cs).1 os) (k := 0) (m := N) (by omega) (by omega) (fun i _ hi => ?_) ?_
    · exact this
    · have hg : os.getD i (ByteArray.empty, 0) = os[i] := getD_nat _ _ _ hi
      have hb := ho i hi
      rw [hg] at hb
      have hll : (outsAt (onceM cs).1 (os.take i)).length = i := by simp [outsAt]; omega
      simp only [fold_once_l9_T, run_br, run_ret, ltI_eq, decide_eq_true_eq, inRange_iff, toNat_nat, hg, i64_succ (i := i) (by omega), hll, h1.1]
      rw [if_pos (by omega), if_pos (by omega), if_pos (by omega), if_pos (by omega), take_snoc _ hi]
      simp only [outsAt, List.map_append, List.map_cons, List.map_nil]
    · simp [fold_once_l9_T]
  have hlv := live_is N (os := outsAt (onceM cs).1 os) h2.ok h2.few h2.wd (by omega) (fun j hj => by rw [outsAt_len] at hj; exact hos j hj) (by rw [outsAt_len]; exact hol) hN
  simp only [fold_once, fold_once_T, run_call, l4, l9, hlv, Option.bind_some, run_ret]
  rfl

theorem equal_is (N : Nat) (a b : List Gate) (hl : a.length ≤ 9000000) (hN : a.length < N) : slices_Equal N a b = some (decide (a = b)) := by
  simp only [slices_Equal, slices_Equal_T, run_br, run_call, run_ret, bne_iffI]
  by_cases h : a.length = b.length
  · have l4 : slices_Equal_l4 N a b a.length 0 = some (if ∀ i, i < a.length → a.getD i g0 = b.getD i g0 then .inr () else .inl ()) := by
      unfold slices_Equal_l4
      refine loop_all (m := N) (fun i => a.getD i g0 = b.getD i g0) a.length (Sum.inl ()) (Sum.inr ()) hN (fun i hi => ?_) ?_
      · simp only [slices_Equal_l4_T, run_br, run_ret, ltI_eq, decide_eq_true_eq, inRange_iff, toNat_nat, i64_succ (i := i) (by omega)]
        rw [if_pos (by omega), if_pos (by omega), if_pos (by omega)]
        rw [show (a.getD i (0, (0, (0, (0, false))))) = a.getD i g0 from rfl, show (b.getD i (0, (0, (0, (0, false))))) = b.getD i g0 from rfl]
        generalize a.getD i g0 = x
        generalize b.getD i g0 = y
        obtain ⟨x1, x2, x3, x4, x5⟩ := x
        obtain ⟨y1, y2, y3, y4, y5⟩ := y
        by_cases hxy : (x1, x2, x3, x4, x5) = (y1, y2, y3, y4, y5)
        · rw [if_pos hxy]
          cases hxy
          simp
        · rw [if_neg hxy]
          rw [if_pos]
          simp only [Prod.mk.injEq] at hxy
          simp only [Bool.not_eq_true', Bool.and_eq_false_iff, beq_eq_false_iff_ne, ne_eq]
          grind
      · simp [slices_Equal_l4_T]
    rw [if_neg (by omega), l4]
    have hab : (∀ i, i < a.length → a.getD i g0 = b.getD i g0) ↔ a = b := by
      constructor
      · intro hh
        apply List.ext_getElem h
        intro i h1 h2
        have := hh i h1
        rwa [getD_nat _ _ _ h1, getD_nat _ _ _ h2] at this
      · rintro rfl i _; rfl
    by_cases he : a = b
    · rw [if_pos (hab.2 he)]; simp [he]
    · rw [if_neg (fun hh => he (hab.1 hh))]; simp [he]
  · rw [if_pos (by omega)]
    have : a ≠ b := fun e => h (by rw [e])
    simp [this]

/-- Until nothing changes. -/
theorem fix_is (N : Nat) {s p : Int} (hN : 8001 < N) : ∀ (n : Nat) (c : List Gate × List GOut), wt c.1 < n → Pl s p c → c.2.length ≤ 8000 →
    ∃ d, loopN (fun v => fold_Circuit_l3_T N v.1 v.2) n c = some d ∧ Pl s p d ∧ Pres c d ∧ onceG d = d ∧ LeastC d
  | 0, c, h, _, _ => absurd h (Nat.not_lt_zero _)
  | n + 1, c, h, hp, hol => by
    obtain ⟨_, h1, h2, h3, h4⟩ := once_pl hp
    have hon := once_is N hp hol hN
    have heq := equal_is N (onceG c).1 c.1 (by have := h1.can.2.2.1; omega) (by have := h1.can.2.2.1; omega)
    have hrun : (fold_Circuit_l3_T N c.1 c.2).run some = some (if (onceG c).1 = c.1 then .inr (onceG c) else .inl (onceG c)) := by
      simp only [fold_Circuit_l3_T, run_call, hon, Option.bind_some, heq, run_br, run_ret, decide_eq_true_eq]
      split <;> rfl
    by_cases he : (onceG c).1 = c.1
    · rw [if_pos he] at hrun
      obtain ⟨e1, e2⟩ := h4 (by rw [he])
      refine ⟨c, ?_, hp, Pres.refl c, e1, e2⟩
      rw [loopN, run_any hrun, e1]
    · rw [if_neg he] at hrun
      have hlt : wt (onceG c).1 < wt c.1 := by
        rcases Nat.lt_or_ge (wt (onceG c).1) (wt c.1) with hh | hh
        · exact hh
        · exact absurd (by rw [(h4 (by omega)).1]) he
      obtain ⟨d, d1, d2, d3, d4, d5⟩ := fix_is N hN n (onceG c) (by omega) h1 (by rw [h2.len]; exact hol)
      refine ⟨d, ?_, d2, h2.trans d3, d4, d5⟩
      rw [loopN, run_any hrun]
      exact d1
end Go.Proofs.YtnlkfkkgcaiklaaV
