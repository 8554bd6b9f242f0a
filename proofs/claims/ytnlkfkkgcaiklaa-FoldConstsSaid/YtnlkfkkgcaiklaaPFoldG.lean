/- Circuits made less: the whole function, inputs, the living example; and that the outputs' words stay. -/
import Derived.Test.YtnlkfkkgcaiklaaPFoldF
namespace Go.Proofs.YtnlkfkkgcaiklaaV
set_option linter.unusedVariables false
set_option linter.unusedSimpArgs false

theorem inps_take (gs : List Gate) {i : Nat} (hlt : i < gs.length) : inps (gs.take (i + 1)) = inps (gs.take i) ++ (if isIn gs[i] = true then [gs[i]] else []) := by
  rw [take_snoc _ hlt]
  simp only [inps, List.filter_append]
  congr 1
  cases h : isIn gs[i] <;> simp [h]
theorem nodup_inps (gs : List Gate) : (inps gs).Nodup ↔ ∀ i, i < gs.length → ¬ (isIn (gs.getD i g0) = true ∧ gs.getD i g0 ∈ gs.take i) := by
  have H : ∀ n, n ≤ gs.length → ((inps (gs.take n)).Nodup ↔ ∀ i, i < n → ¬ (isIn (gs.getD i g0) = true ∧ gs.getD i g0 ∈ gs.take i)) := by
    intro n
    induction n with
    | zero => intro _; simp [inps]
    | succ n ih =>
      intro hn
      have hlt : n < gs.length := by omega
      have hg : gs.getD n g0 = gs[n] := getD_nat _ _ _ hlt
      rw [inps_take gs hlt]
      have hm : gs[n] ∈ inps (gs.take n) ↔ gs[n] ∈ gs.take n ∧ isIn gs[n] = true := List.mem_filter
      constructor
      · intro hh i hi
        rw [List.nodup_append] at hh
        rcases Nat.lt_or_ge i n with h | h
        · exact (ih (by omega)).1 hh.1 i h
        · obtain rfl : i = n := by omega
          rw [hg]
          rintro ⟨h1, h2⟩
          rw [if_pos h1] at hh
          exact hh.2.2 _ (hm.2 ⟨h2, h1⟩) _ (by simp) rfl
      · intro hh
        rw [List.nodup_append]
        refine ⟨(ih (by omega)).2 fun i hi => hh i (by omega), by split <;> simp, fun a ha b hb => ?_⟩
        split at hb
        · rename_i h1
          simp only [List.mem_singleton] at hb
          subst hb
          rintro rfl
          have := hh n (by omega)
          rw [hg] at this
          exact this ⟨h1, (hm.1 ha).1⟩
        · cases hb
  have := H gs.length (Nat.le_refl _)
  rwa [List.take_length] at this

theorem twice_is (N : Nat) (gs : List Gate) (hl : gs.length ≤ 8000) (hN : 8001 < N) : fold_twice N gs = some (!decide (inps gs).Nodup) := by
  let M : Nat → List (Gate × Bool) := fun i => (gs.take i).foldl (fun M g => setE (eqE KG) g (isIn g) M) []
  have hM : ∀ (l : List Gate) (M0 : List (Gate × Bool)) (g : Gate), getE (eqE KG) g false (l.foldl (fun M g => setE (eqE KG) g (isIn g) M) M0) = (if g ∈ l then isIn g else getE (eqE KG) g false M0) := by
    intro l
    induction l with
    | nil => intro M0 g; rfl
    | cons x l ih =>
      intro M0 g
      rw [List.foldl_cons, ih, getE_set]
      by_cases h1 : g ∈ l
      · simp [h1]
      · by_cases h2 : g = x <;> simp [h1, h2]
  have hstep : ∀ i, i < gs.length → M (i + 1) = setE (eqE KG) (gs.getD i g0) (isIn (gs.getD i g0)) (M i) := by
    intro i hi
    simp only [M]
    rw [take_snoc _ hi, List.foldl_append, getD_nat _ _ _ hi]
    rfl
  have key := loop_find (s := fun v => fold_twice_l3_T N gs gs.length v.1 v.2) (fun i : Nat => ((i : Int), M i)) (fun i => ¬ (isIn (gs.getD i g0) = true ∧ gs.getD i g0 ∈ gs.take i)) gs.length (fun _ => (Sum.inl () : Unit ⊕ Unit)) (Sum.inr ()) (m := N) (by omega) (fun i hi _ => ?_) ?_
  · have e : fold_twice N gs = (loopN (fun v => fold_twice_l3_T N gs gs.length v.1 v.2) N ((((0 : Nat) : Int), M 0))).bind fun y => (Tree.alt y (fun _ => Tree.ret true) (fun _ => Tree.ret false)).run some := rfl
    rw [e]
    rcases key with ⟨h1, h2⟩ | ⟨i, hi, h1, _, h2⟩
    · rw [h2]
      have : (inps gs).Nodup := (nodup_inps gs).2 h1
      simp [this]
    · rw [h2]
      have : ¬ (inps gs).Nodup := fun hh => h1 ((nodup_inps gs).1 hh i hi)
      simp [this]
  · have hget : getE (eqE KG) (gs.getD i g0) false (M i) = (if gs.getD i g0 ∈ gs.take i then isIn (gs.getD i g0) else false) := hM _ _ _
    have c1 : ltI (i : Int) (gs.length : Int) = true := by rw [ltI_eq, decide_eq_true_eq]; omega
    have c2 : inRange (i : Int) gs.length = true := by rw [inRange_iff]; omega
    simp only
    rw [hstep i hi]
    simp only [fold_twice_l3_T, run_br, run_call, run_ret, c1, c2, if_true, toNat_nat, input_is, Option.bind_some, decide_eq_true_eq, i64_succ (i := i) (by omega)]
    rw [show (gs.getD i (0, (0, (0, (0, false))))) = gs.getD i g0 from rfl]
    have he : ((gs.getD i g0).1, ((gs.getD i g0).2.1, ((gs.getD i g0).2.2.1, ((gs.getD i g0).2.2.2.1, (gs.getD i g0).2.2.2.2)))) = gs.getD i g0 := rfl
    have hi2 : (isIn (gs.getD i g0) = true) = ((gs.getD i g0).1 = 1 ∨ (gs.getD i g0).1 = 2) := by simp [isIn]
    have hdi : decide ((gs.getD i g0).1 = 1 ∨ (gs.getD i g0).1 = 2) = isIn (gs.getD i g0) := rfl
    rw [he, hget, hdi, hi2]
    by_cases hin : (gs.getD i g0).1 = 1 ∨ (gs.getD i g0).1 = 2
    · rw [if_pos hin]
      by_cases hm : gs.getD i g0 ∈ gs.take i
      · right
        refine ⟨fun hh => hh ⟨hin, hm⟩, ?_⟩
        have : isIn (gs.getD i g0) = true := by rw [hi2]; exact hin
        rw [if_pos hm, this]
        rfl
      · left
        refine ⟨fun hh => hm hh.2, ?_⟩
        rw [if_neg hm]
        rfl
    · left
      refine ⟨fun hh => hin hh.1, ?_⟩
      rw [if_neg hin]
  · intro _
    have c1 : ltI (gs.length : Int) (gs.length : Int) = false := by rw [ltI_eq]; simp
    simp only [fold_twice_l3_T, run_br, run_ret, c1, Bool.false_eq_true, if_false]

theorem inputs_is (N : Nat) (gs : List Gate) (hl : gs.length ≤ 8000) (hN : 8001 < N) : bautaref17_Inputs N gs = some (inps gs) := by
  have l3 : bautaref17_Inputs_l3 N gs (0, []) = some (inps gs) := by
    unfold bautaref17_Inputs_l3
    have := loop_up (s := fun v => bautaref17_Inputs_l3_T N gs v.1 v.2) (fun i : Nat => ((i : Int), inps (gs.take i))) gs.length (inps gs) (k := 0) (m := N) (by omega) (by omega) (fun i _ hi => ?_) ?_
    · exact this
    · have hg : gs.getD i (0, (0, (0, (0, false)))) = gs[i] := getD_nat _ _ _ hi
      have c1 : ltI (i : Int) (gs.length : Int) = true := by rw [ltI_eq, decide_eq_true_eq]; omega
      have c2 : inRange (i : Int) gs.length = true := by rw [inRange_iff]; omega
      have hll : (inps (gs.take i)).length ≤ i := by
        have := List.length_filter_le isIn (gs.take i)
        simp only [List.length_take] at this
        unfold inps; omega
      have c3 : ltI ((((inps (gs.take i)).length : Int) + 1) * 32) 140737488355328 = true := by rw [ltI_eq, decide_eq_true_eq]; omega
      have j6 : ∀ t, bautaref17_Inputs_j6 N i t gs (inps (gs.take i)) = some (if t = true then inps (gs.take i) ++ [gs[i]] else inps (gs.take i)) := by
        intro t
        simp only [bautaref17_Inputs_j6, bautaref17_Inputs_j6_T, run_br, run_ret, c2, c3, toNat_nat, hg, if_true]
        cases t <;> rfl
      simp only [bautaref17_Inputs_l3_T, run_br, run_call, run_ret, c1, c2, toNat_nat, hg, if_true, j6, Option.bind_some, i64_succ (i := i) (by omega), beq_iffI]
      rw [inps_take gs hi]
      have hi2 : (isIn gs[i] = true) = (gs[i].1 = 1 ∨ gs[i].1 = 2) := by simp [isIn]
      by_cases h1 : gs[i].1 = 1
      · have hii : isIn gs[i] = true := by rw [hi2]; exact .inl h1
        rw [if_pos h1, if_pos hii]
      · by_cases h2 : gs[i].1 = 2
        · have hii : isIn gs[i] = true := by rw [hi2]; exact .inr h2
          rw [if_neg h1, if_pos h2, if_pos hii]
        · have hii : ¬ isIn gs[i] = true := by rw [hi2]; omega
          rw [if_neg h1, if_neg h2, if_neg hii, List.append_nil]
    · have c1 : ltI (gs.length : Int) (gs.length : Int) = false := by rw [ltI_eq]; simp
      simp only [bautaref17_Inputs_l3_T, run_br, run_ret, c1, Bool.false_eq_true, if_false, List.take_length]
  simp only [bautaref17_Inputs, bautaref17_Inputs_T, run_call, l3, Option.bind_some, run_ret]

theorem gate_beq (x y : Gate) : ((x.1 == y.1) && ((x.2.1 == y.2.1) && ((x.2.2.1 == y.2.2.1) && ((x.2.2.2.1 == y.2.2.2.1) && (x.2.2.2.2 == y.2.2.2.2))))) = decide (x = y) := by
  obtain ⟨x1, x2, x3, x4, x5⟩ := x
  obtain ⟨y1, y2, y3, y4, y5⟩ := y
  rw [Bool.eq_iff_iff]
  simp

theorem ref_twice (N : Nat) (gs : List Gate) (hl : gs.length ≤ 8000) (hN : 8001 < N) : bautaref17_Twice N gs = some (!decide (inps gs).Nodup) := by
  classical
  have hll : (inps gs).length ≤ 8000 := by
    have := List.length_filter_le isIn gs
    unfold inps; omega
  simp only [bautaref17_Twice, bautaref17_Twice_T, run_call, inputs_is N gs hl hN, Option.bind_some]
  generalize inps gs = l at *
  have l6 : ∀ i : Nat, i < l.length → bautaref17_Twice_l6 N i l 0 = some (if ∀ k, k < i → l.getD k g0 ≠ l.getD i g0 then .inr () else .inl ()) := by
    intro i hi
    unfold bautaref17_Twice_l6
    refine loop_all (m := N) (fun k => l.getD k g0 ≠ l.getD i g0) i (Sum.inl ()) (Sum.inr ()) (by omega) (fun k hk => ?_) ?_
    · have c1 : ltI (k : Int) (i : Int) = true := by rw [ltI_eq, decide_eq_true_eq]; omega
      have c2 : inRange (i : Int) l.length = true := by rw [inRange_iff]; omega
      have c3 : inRange (k : Int) l.length = true := by rw [inRange_iff]; omega
      simp only [bautaref17_Twice_l6_T, run_br, run_ret, c1, c2, c3, if_true, toNat_nat, i64_succ (i := k) (by omega)]
      rw [show (l.getD i (0, (0, (0, (0, false))))) = l.getD i g0 from rfl, show (l.getD k (0, (0, (0, (0, false))))) = l.getD k g0 from rfl, gate_beq]
      by_cases he : l.getD i g0 = l.getD k g0
      · have hn : ¬ (l.getD k g0 ≠ l.getD i g0) := fun h => h he.symm
        rw [if_pos (decide_eq_true he), if_neg hn]
      · have hn : l.getD k g0 ≠ l.getD i g0 := fun h => he h.symm
        rw [if_neg (by simp only [decide_eq_true_eq]; exact he), if_pos hn]
    · have c1 : ltI (i : Int) (i : Int) = false := by rw [ltI_eq]; simp
      simp only [bautaref17_Twice_l6_T, run_br, run_ret, c1, Bool.false_eq_true, if_false]
  have l3 : bautaref17_Twice_l3 N l 0 = some (if ∀ i, i < l.length → ∀ k, k < i → l.getD k g0 ≠ l.getD i g0 then .inr () else .inl ()) := by
    unfold bautaref17_Twice_l3
    refine loop_all (m := N) (fun i => ∀ k, k < i → l.getD k g0 ≠ l.getD i g0) l.length (Sum.inl ()) (Sum.inr ()) (by omega) (fun i hi => ?_) ?_
    · have c1 : ltI (i : Int) (l.length : Int) = true := by rw [ltI_eq, decide_eq_true_eq]; omega
      simp only [bautaref17_Twice_l3_T, run_br, run_call, c1, if_true, l6 i hi, Option.bind_some, i64_succ (i := i) (by omega)]
      split <;> rfl
    · have c1 : ltI (l.length : Int) (l.length : Int) = false := by rw [ltI_eq]; simp
      simp only [bautaref17_Twice_l3_T, run_br, run_ret, c1, Bool.false_eq_true, if_false]
  have hnd : (∀ i, i < l.length → ∀ k, k < i → l.getD k g0 ≠ l.getD i g0) ↔ l.Nodup := by
    unfold List.Nodup
    rw [List.pairwise_iff_getElem]
    constructor
    · intro h i j hi hj hij
      have := h j hj i hij
      rwa [getD_nat _ _ _ hi, getD_nat _ _ _ hj] at this
    · intro h i hi k hk
      have := h k i (by omega) hi hk
      rwa [getD_nat _ _ _ hi, getD_nat _ _ _ (by omega : k < l.length)]
  rw [l3]
  by_cases h : l.Nodup
  · rw [if_pos (hnd.2 h)]; simp [h]
  · rw [if_neg (fun hh => h (hnd.1 hh))]; simp [h]

theorem clone_is (N : Nat) (l : List Gate) (hl : l.length ≤ 9000) : slices_Clone N l = some l := by
  simp only [slices_Clone, slices_Clone_T, run_br, run_or, run_ret]
  have c : ltI ((0 + (l.length : Int)) * 32) 140737488355328 = true := by rw [ltI_eq, decide_eq_true_eq]; omega
  cases l with
  | nil => simp only [List.isEmpty_nil, if_true, c]; exact anyR_self _
  | cons x l => simp only [List.isEmpty_cons, Bool.false_eq_true, if_false, c, if_true]
theorem clone2_is (N : Nat) (l : List GOut) (hl : l.length ≤ 9000) : slices_Clone_2 N l = some l := by
  simp only [slices_Clone_2, slices_Clone_2_T, run_br, run_or, run_ret]
  have c : ltI ((0 + (l.length : Int)) * 24) 140737488355328 = true := by rw [ltI_eq, decide_eq_true_eq]; omega
  cases l with
  | nil => simp only [List.isEmpty_nil, if_true, c]; exact anyR_self _
  | cons x l => simp only [List.isEmpty_cons, Bool.false_eq_true, if_false, c, if_true]

/-- A circuit that is made less, or not. -/
def Lessens (s p : Int) (gs : List Gate) (os : List GOut) : Prop := (CanOK gs s p os ∧ FewK gs) ∧ (inps gs).Nodup
instance (s p : Int) (gs : List Gate) (os : List GOut) : Decidable (Lessens s p gs os) := by unfold Lessens FewK; infer_instance

theorem wt_le (gs : List Gate) : wt gs ≤ 3 * gs.length := by
  induction gs with
  | nil => simp [wt]
  | cons g l ih =>
    simp only [wt, List.map_cons, List.sum_cons, List.length_cons] at ih ⊢
    have : wk g.1 ≤ 3 := by unfold wk; split <;> (try split) <;> omega
    omega

theorem circuit_is (N : Nat) (gs : List Gate) (s p : Int) (os : List GOut) (hw : Wds gs) (hl : gs.length ≤ 8000) (ho : os.length ≤ 8000) (hN : 24001 < N) :
    ∃ d, fold_Circuit N gs s p os = some d ∧ (Lessens s p gs os → Pl s p d ∧ Pres (gs, os) d ∧ onceG d = d ∧ LeastC d) ∧ (¬ Lessens s p gs os → d = (gs, os)) := by
  have hown : fold_own N gs os = some (gs, os) := by
    simp only [fold_own, fold_own_T, run_call, clone_is N gs (by omega), clone2_is N os (by omega), Option.bind_some, run_ret]
  simp only [fold_Circuit, fold_Circuit_T, run_call, run_br, run_ret, real_plain N gs s p os hw (by omega) ho (by omega) (by omega), Option.bind_some, hown, twice_is N gs hl (by omega), not_iffB, decide_eq_true_eq]
  by_cases h1 : CanOK gs s p os ∧ FewK gs
  · rw [if_neg (not_not_intro h1)]
    by_cases h2 : (inps gs).Nodup
    · rw [if_neg (not_not_intro h2)]
      obtain ⟨d, hd, h3⟩ := fix_is N (s := s) (p := p) (by omega) N (gs, os) (by have := wt_le gs; simp only; omega) ⟨h1.1, h1.2, hw, h2⟩ ho
      have hj : fold_Circuit_j3 N gs os = some d := by
        have : fold_Circuit_l3 N (gs, os) = some d := hd
        simp only [fold_Circuit_j3, fold_Circuit_j3_T, run_call, this, Option.bind_some, run_ret]
      rw [hj]
      exact ⟨d, rfl, fun _ => h3, fun h => absurd ⟨h1, h2⟩ h⟩
    · rw [if_pos h2]
      exact ⟨_, rfl, fun h => absurd h.2 h2, fun _ => rfl⟩
  · rw [if_pos h1]
    exact ⟨_, rfl, fun h => absurd h.1 h1, fun _ => rfl⟩

theorem plain_is (N : Nat) (gs : List Gate) (s p : Int) (os : List GOut) (hw : Wds gs) (hl : gs.length ≤ 8000) (ho : os.length ≤ 8000) (hN : 8001 < N) : bautalaw17_plain N gs s p os = some (decide (Lessens s p gs os)) := by
  simp only [bautalaw17_plain, bautalaw17_plain_T, run_call, run_br, run_ret, ref_plain N gs s p os hw (by omega) ho (by omega) (by omega), ref_twice N gs hl hN, Option.bind_some, decide_eq_true_eq, Bool.not_not, Lessens]
  by_cases h1 : CanOK gs s p os ∧ FewK gs
  · simp [h1]
  · simp [h1]

/-! ### The living example -/
def liveGs : List Gate := [(1, (0, (0, (0, true)))), (0, (0, (0, (4294967295, false)))), (3, (0, (1, (0, true)))), (5, (2, (0, (0, true)))), (5, (3, (0, (0, true))))]
def liveOs : List GOut := [(ByteArray.empty, 4)]
theorem live_pl : CanOK liveGs 1 0 liveOs ∧ FewK liveGs ∧ (inps liveGs).Nodup := by decide +kernel
theorem live_wd : Wds liveGs := by
  intro i hi
  have hi : i < 5 := hi
  rcases i with _ | _ | _ | _ | _ | i <;> first | (constructor <;> decide) | omega
theorem live_1 : (onceG (liveGs, liveOs)).1 = [(1, (0, (0, (0, true))))] := by decide +kernel
theorem live_2 : (onceG (onceG (liveGs, liveOs))).1 = [(1, (0, (0, (0, true))))] := by decide +kernel

theorem lives_is (N : Nat) (hN : 24001 < N) : bautalaw17_lives N = some true := by
  have hp : Pl 1 0 (liveGs, liveOs) := ⟨live_pl.1, live_pl.2.1, live_wd, live_pl.2.2⟩
  obtain ⟨_, p1, r1, _, _⟩ := once_pl hp
  obtain ⟨_, p2, r2, _, q2⟩ := once_pl p1
  have hon1 := once_is N hp (by decide) (by omega)
  have hon2 := once_is N p1 (by rw [r1.len]; decide) (by omega)
  obtain ⟨e2, _⟩ := q2 (by rw [live_2, live_1])
  have heq1 := equal_is N (onceG (liveGs, liveOs)).1 liveGs (by rw [live_1]; decide) (by rw [live_1]; simp; omega)
  have heq2 := equal_is N (onceG (onceG (liveGs, liveOs))).1 (onceG (liveGs, liveOs)).1 (by rw [live_2]; decide) (by rw [live_2]; simp; omega)
  have n1 : ¬ (onceG (liveGs, liveOs)).1 = liveGs := by rw [live_1]; decide
  have hl3 : fold_Circuit_l3 N (liveGs, liveOs) = some (onceG (liveGs, liveOs)) := by
    unfold fold_Circuit_l3
    refine loop_step (x' := onceG (liveGs, liveOs)) (by omega) ?_ (loop_stop (by omega) ?_)
    · simp only [fold_Circuit_l3_T, run_call, hon1, Option.bind_some, heq1, run_br, run_ret, decide_eq_true_eq, n1, if_false]
    · simp only [fold_Circuit_l3_T, run_call, hon2, Option.bind_some, heq2, run_br, run_ret, decide_eq_true_eq]
      rw [if_pos (by rw [live_2, live_1]), e2]
  have hj : fold_Circuit N liveGs 1 0 liveOs = some (onceG (liveGs, liveOs)) := by
    have hpl := live_pl
    simp only [fold_Circuit, fold_Circuit_T, run_call, run_br, run_ret, real_plain N liveGs 1 0 liveOs live_wd (by decide) (by decide) (by omega) (by simp [liveGs]; omega), Option.bind_some, twice_is N liveGs (by decide) (by omega), not_iffB, decide_eq_true_eq]
    rw [if_neg (not_not_intro ⟨hpl.1, hpl.2.1⟩), if_neg (not_not_intro hpl.2.2)]
    simp only [fold_Circuit_j3, fold_Circuit_j3_T, run_call, hl3, Option.bind_some, run_ret]
  have hlen : (onceG (liveGs, liveOs)).2.length = 1 := r1.len
  have hcan := p1.can.2.2.2.2 0 (by rw [hlen]; omega)
  rw [live_1] at hcan
  have hz : ((onceG (liveGs, liveOs)).2.getD 0 (ByteArray.empty, 0)).2 = 0 := by simp only [List.length_cons, List.length_nil] at hcan; omega
  simp only [bautalaw17_lives, bautalaw17_lives_T, run_call, run_br, run_ret]
  rw [show fold_Circuit N [(1, (0, (0, (0, true)))), (0, (0, (0, (4294967295, false)))), (3, (0, (1, (0, true)))), (5, (2, (0, (0, true)))), (5, (3, (0, (0, true))))] 1 0 [(ByteArray.empty, 4)] = fold_Circuit N liveGs 1 0 liveOs from rfl, hj]
  simp only [Option.bind_some, live_1, hlen, hz]
  rfl

/-! ### The outputs' words -/
theorem few_is (N : Nat) (gs : List Gate) (os : List GOut) : bautalaw17_few N gs os = some (decide (gs.length ≤ 400 ∧ os.length ≤ 100)) := by
  simp only [bautalaw17_few, bautalaw17_few_T, run_br, run_ret, leI_eq, decide_eq_true_eq]
  by_cases h : (gs.length : Int) ≤ 400
  · have : gs.length ≤ 400 := by omega
    rw [if_pos h]
    simp only [this, true_and]
    congr 1
    rw [decide_eq_decide]; omega
  · have : ¬ gs.length ≤ 400 := by omega
    rw [if_neg h]
    simp [this]

theorem short_is (N : Nat) (l : List Int) : bautalaw17_short N l = some (l.take 100) := by
  simp only [bautalaw17_short, bautalaw17_short_T, run_br, run_ret, ltI_eq, leI_eq, decide_eq_true_eq, Bool.and_eq_true]
  by_cases h1 : (100 : Int) < l.length
  · rw [if_pos h1, if_pos (by omega), if_pos (by simp only [List.length_take]; omega)]
  · rw [if_neg h1, if_pos (by omega), List.take_of_length_le (by omega)]
end Go.Proofs.YtnlkfkkgcaiklaaV
