/- The checker of names: its small functions. -/
import Derived.Test.YtfogafinohfpfaaGreatDoorPNlTB
namespace Go.Proofs.YtfogafinohfpfaaGreatDoorV
set_option linter.unusedVariables false
set_option linter.unusedSimpArgs false

abbrev SM := List (ByteArray × Int)
abbrev LBL := ByteArray × (Bool × Bool)

theorem idx_find {α : Type} (N : Nat) (l : List α) (d : α) (p : α → Bool) (s : Int → Tree (Int ⊕ (Int ⊕ Unit))) (hN : l.length < N)
    (h : ∀ i : Nat, i < l.length → (s (i : Int)).run some = some (if p (l.getD i d) = true then .inr (.inl (i : Int)) else .inl ((i + 1 : Nat) : Int))) (hlast : (s (l.length : Int)).run some = some (.inr (.inr ()))) :
    (l.any p = true ∧ ∃ i : Nat, loopN s N 0 = some (.inl (i : Int))) ∨ (l.any p = false ∧ loopN s N 0 = some (.inr ())) := by
  have key := loop_find (s := s) (fun i : Nat => (i : Int)) (fun i => p (l.getD i d) = false) l.length (fun i => .inl (i : Int)) (.inr ()) (m := N) hN (fun i hi _ => ?_) (fun _ => hlast)
  · rcases key with ⟨h1, e⟩ | ⟨i, hi, hp, _, e⟩
    · refine .inr ⟨?_, e⟩
      rw [List.any_eq_false]
      intro x hx
      obtain ⟨i, hi, rfl⟩ := List.mem_iff_getElem.1 hx
      have := h1 i hi
      rw [getD_nat _ _ _ hi] at this
      simp [this]
    · refine .inl ⟨?_, i, e⟩
      rw [List.any_eq_true]
      exact ⟨_, getD_memT l d hi, by simpa using hp⟩
  · rw [h i hi]
    cases hp : p (l.getD i d) with
    | true => exact .inr ⟨by simp, by simp⟩
    | false => exact .inl ⟨rfl, by simp⟩

/-- Is a name one already. -/
def takenB (so fu : SM) (x : ByteArray) : Bool := (getE (eqE .str) x 0 so != 0) || hasE (eqE .str) x fu
theorem fun_is (N : Nat) (x : ByteArray) (fu : SM) : names_checker_fun N x fu = some (hasE (eqE .str) x fu) := rfl
theorem taken_is (N : Nat) (x : ByteArray) (so fu : SM) : names_checker_taken N x so fu = some (takenB so fu x) := by
  simp only [names_checker_taken, names_checker_taken_T, run_br, run_call, run_ret, fun_is, Option.bind_some, takenB]
  by_cases h : (getE (eqE .str) x 0 so != 0) = true
  · rw [if_pos h, h]; rfl
  · rw [if_neg h]
    have : (getE (eqE .str) x 0 so != 0) = false := by simpa using h
    rw [this]; rfl

section
variable (N : Nat) (hN : 4000000000 < N)
include hN
theorem cf_taken (l : List ByteArray) (so fu : SM) (hl : l.length ≤ 4000000000) : slices_ContainsFunc N l so fu = some (l.any (takenB so fu)) := by
  simp only [slices_ContainsFunc, slices_ContainsFunc_T, slices_IndexFunc, slices_IndexFunc_T, run_call, slices_IndexFunc_l2]
  have q := idx_find N l ByteArray.empty (takenB so fu) (fun v => slices_IndexFunc_l2_T N l (l.length : Int) so fu v) (by omega)
    (fun i hi => by
      simp only [slices_IndexFunc_l2_T, run_br, run_call, run_ret, ltI_iff, inRange_iff, toNat_nat, taken_is, Option.bind_some]
      rw [if_pos (by omega), if_pos (by omega), i64_succ (by omega)]
      cases takenB so fu (l.getD i ByteArray.empty) <;> simp)
    (by
      simp only [slices_IndexFunc_l2_T, run_br, run_ret, ltI_iff]
      rw [if_neg (by omega)])
  rcases q with ⟨h1, i, e⟩ | ⟨h1, e⟩
  · rw [e, h1]
    simp only [Option.bind_some, run_inl, run_ret]
    rw [leI_eq, decide_eq_true (by omega)]
  · rw [e, h1]; rfl

theorem cf_fun (l : List ByteArray) (fu : SM) (hl : l.length ≤ 4000000000) : slices_ContainsFunc_2 N l fu = some (l.any fun x => hasE (eqE .str) x fu) := by
  simp only [slices_ContainsFunc_2, slices_ContainsFunc_2_T, slices_IndexFunc_2, slices_IndexFunc_2_T, run_call, slices_IndexFunc_2_l2]
  have q := idx_find N l ByteArray.empty (fun x => hasE (eqE .str) x fu) (fun v => slices_IndexFunc_2_l2_T N l (l.length : Int) fu v) (by omega)
    (fun i hi => by
      simp only [slices_IndexFunc_2_l2_T, run_br, run_call, run_ret, ltI_iff, inRange_iff, toNat_nat, fun_is, Option.bind_some]
      rw [if_pos (by omega), if_pos (by omega), i64_succ (by omega)]
      cases hasE (eqE .str) (l.getD i ByteArray.empty) fu <;> simp)
    (by
      simp only [slices_IndexFunc_2_l2_T, run_br, run_ret, ltI_iff]
      rw [if_neg (by omega)])
  rcases q with ⟨h1, i, e⟩ | ⟨h1, e⟩
  · rw [e, h1]
    simp only [Option.bind_some, run_inl, run_ret]
    rw [leI_eq, decide_eq_true (by omega)]
  · rw [e, h1]; rfl

/-- Is a label's name one of some. -/
def labB (s : ByteArray) (x : LBL) : Bool := x.1.toList == s.toList
theorem cf_lab (l : List LBL) (s : ByteArray) (hl : l.length ≤ 4000000000) : slices_ContainsFunc_3 N l s = some (l.any (labB s)) := by
  simp only [slices_ContainsFunc_3, slices_ContainsFunc_3_T, slices_IndexFunc_3, slices_IndexFunc_3_T, run_call, slices_IndexFunc_3_l2]
  have q := idx_find N l (ByteArray.empty, (false, false)) (labB s) (fun v => slices_IndexFunc_3_l2_T N (l.length : Int) l s v) (by omega)
    (fun i hi => by
      simp only [slices_IndexFunc_3_l2_T, names_checker_stmt_1, names_checker_stmt_1_T, run_br, run_call, run_ret, ltI_iff, inRange_iff, toNat_nat, Option.bind_some, labB]
      rw [if_pos (by omega), if_pos (by omega), i64_succ (by omega)]
      split <;> rename_i hh <;> simp [hh, -List.getD_eq_getElem?_getD])
    (by
      simp only [slices_IndexFunc_3_l2_T, run_br, run_ret, ltI_iff]
      rw [if_neg (by omega)])
  rcases q with ⟨h1, i, e⟩ | ⟨h1, e⟩
  · rw [e, h1]
    simp only [Option.bind_some, run_inl, run_ret]
    rw [leI_eq, decide_eq_true (by omega)]
  · rw [e, h1]; rfl

theorem ct_str (l : List ByteArray) (t : ByteArray) (hl : l.length ≤ 4000000000) : slices_Contains N l t = some (l.any fun x => t.toList == x.toList) := by
  simp only [slices_Contains, slices_Contains_T, slices_Index, slices_Index_T, run_call, slices_Index_l2]
  have q := idx_find N l ByteArray.empty (fun x => t.toList == x.toList) (fun v => slices_Index_l2_T N l t (l.length : Int) v) (by omega)
    (fun i hi => by
      simp only [slices_Index_l2_T, run_br, run_call, run_ret, ltI_iff, inRange_iff, toNat_nat]
      rw [if_pos (by omega), if_pos (by omega), i64_succ (by omega)]
      split <;> rfl)
    (by
      simp only [slices_Index_l2_T, run_br, run_ret, ltI_iff]
      rw [if_neg (by omega)])
  rcases q with ⟨h1, i, e⟩ | ⟨h1, e⟩
  · rw [e, h1]
    simp only [Option.bind_some, run_inl, run_ret]
    rw [leI_eq, decide_eq_true (by omega)]
  · rw [e, h1]; rfl

theorem ct_bool (l : List Bool) (hl : l.length ≤ 4000000000) : slices_Contains_2 N l true = some (l.any id) := by
  simp only [slices_Contains_2, slices_Contains_2_T, slices_Index_2, slices_Index_2_T, run_call, slices_Index_2_l2]
  have q := idx_find N l false id (fun v => slices_Index_2_l2_T N l true (l.length : Int) v) (by omega)
    (fun i hi => by
      simp only [slices_Index_2_l2_T, run_br, run_call, run_ret, ltI_iff, inRange_iff, toNat_nat]
      rw [if_pos (by omega), if_pos (by omega), i64_succ (by omega)]
      cases l.getD i false <;> simp)
    (by
      simp only [slices_Index_2_l2_T, run_br, run_ret, ltI_iff]
      rw [if_neg (by omega)])
  rcases q with ⟨h1, i, e⟩ | ⟨h1, e⟩
  · rw [e, h1]
    simp only [Option.bind_some, run_inl, run_ret]
    rw [leI_eq, decide_eq_true (by omega)]
  · rw [e, h1]; rfl

theorem wrong_is (l : List Bool) (hl : l.length ≤ 4000000000) : names_wrong N l = some (if l.any id = true then .inl () else .inr ()) := by
  simp only [names_wrong, names_wrong_T, run_call, ct_bool N hN l hl, Option.bind_some, run_br, run_ret]
  split <;> rfl

/-- Whether a name stands twice: it comes to something. -/
theorem twice_ok (l : List ByteArray) (hl : l.length ≤ 4000000000) : OS (names_twice N l) (fun _ => True) := by
  have hcl : slices_Clone N l = some l := by
    simp only [slices_Clone, slices_Clone_T, run_br, run_or, run_ret, ltI_iff]
    have hg : ((0 + (l.length : Int)) * 16 < 140737488355328) := by omega
    simp only [hg, if_true]
    cases l with
    | nil => simp [anyR]
    | cons x r => simp
  have hso : slices_Sort N l = some (sortB l) := by unfold slices_Sort; rw [if_pos (by omega)]
  have hsl : (sortB l).length = l.length := by simp [sortB]
  refine OS.of ?_
  unfold names_twice_T
  refine TS.call (P := fun y => y = l) ⟨_, hcl, rfl⟩ (fun y hy => ?_)
  subst hy
  refine TS.call (P := fun z => z = sortB y) ⟨_, hso, rfl⟩ (fun z hz => ?_)
  subst hz
  refine TS.call (P := fun _ => True) ?_ (fun r _ => ?_)
  · refine OS.of ?_
    unfold slices_Compact_T
    refine TS.br (fun _ => TS.ret trivial) (fun hc => ?_)
    rw [ltI_eq, decide_eq_false_iff_not] at hc
    refine TS.call (P := fun _ => True) ?_ (fun y _ => ?_)
    · refine loop_os (fun t : Int => 1 ≤ t ∧ t ≤ (sortB y).length) (fun t => ((sortB y).length - t).toNat) _ (by omega) (by omega) (fun t ht => ?_)
      unfold slices_Compact_l4_T
      refine TS.br (fun hc2 => ?_) (fun _ => TS.ret trivial)
      rw [ltI_eq, decide_eq_true_eq] at hc2
      have e1 : IntKind.i64.wrap (t - 1) = t - 1 := i64_in (by omega)
      have e2 : IntKind.i64.wrap (t + 1) = t + 1 := i64_in (by omega)
      refine TS.brT (by rw [inRange_iff]; omega) ?_
      dsimp only
      rw [e1, e2]
      refine TS.brT (by rw [inRange_iff]; omega) ?_
      refine TS.br (fun _ => ?_) (fun _ => TS.ret (by dsimp only [EP]; omega))
      refine TS.brT (by rw [Bool.and_eq_true, leI_eq, leI_eq, decide_eq_true_eq, decide_eq_true_eq]; omega) ?_
      refine TS.call (P := fun v : Int × List ByteArray => 0 ≤ v.1 ∧ v.1 ≤ v.2.length) ?_ (fun v hv => ?_)
      · refine loop_os (fun v : Int × Int × List ByteArray => t ≤ v.1 ∧ v.1 ≤ t + v.2.1 - 1 ∧ 1 ≤ v.2.1 ∧ v.2.1 ≤ (((sortB y).length - t.toNat : Nat) : Int) ∧ v.2.2.length = (sortB y).length) (fun v => ((sortB y).length - v.2.1).toNat) _ (by dsimp only; omega) (by dsimp only; omega) (fun v hv => ?_)
        obtain ⟨p1, p2, p3, p4, p5⟩ := hv
        unfold slices_Compact_l9_T
        refine TS.br (fun hc3 => ?_) (fun hc3 => TS.ret (by dsimp only [EP]; omega))
        rw [ltI_eq, decide_eq_true_eq] at hc3
        have f1 : IntKind.i64.wrap (v.2.1 - 1) = v.2.1 - 1 := i64_in (by omega)
        have f2 : IntKind.i64.wrap (v.2.1 + 1) = v.2.1 + 1 := i64_in (by omega)
        have f3 : IntKind.i64.wrap (v.1 + 1) = v.1 + 1 := i64_in (by omega)
        refine TS.brT (by rw [inRange_iff]; omega) ?_
        dsimp only
        rw [f1, f2, f3]
        refine TS.brT (by rw [inRange_iff]; omega) ?_
        refine TS.br (fun _ => ?_) (fun _ => TS.ret (by dsimp only [EP]; omega))
        refine TS.brT (by rw [inRange_iff]; omega) ?_
        refine TS.brT (by rw [inRange_iff]; omega) ?_
        refine TS.ret ?_
        dsimp only [EP]
        rw [List.length_set]
        omega
      · refine TS.brT (by rw [Bool.and_eq_true, leI_eq, leI_eq, decide_eq_true_eq, decide_eq_true_eq]; omega) ?_
        refine TS.brT ?_ (TS.ret trivial)
        rw [Bool.and_eq_true, leI_eq, leI_eq, decide_eq_true_eq, decide_eq_true_eq]
        simp only [List.length_append, List.length_take, List.length_replicate, List.length_drop]
        omega
    · cases y <;> exact TS.ret trivial
  · cases r <;> exact TS.ret trivial
end
end Go.Proofs.YtfogafinohfpfaaGreatDoorV
