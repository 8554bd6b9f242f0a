/- The plain law of chapter 12: NamesUses. -/
import Derived.Test.YtfogafinohfpfaaGreatDoorPTrB
namespace Go.Proofs.YtfogafinohfpfaaGreatDoorV
set_option linter.unusedVariables false
set_option linter.unusedSimpArgs false

abbrev bs (s : ByteArray) : List UInt8 := s.data.toList
theorem bs_inj {a b : ByteArray} (h : bs a = bs b) : a = b := by cases a; cases b; simp only [bs] at h; congr 1; exact Array.toList_inj.1 h
theorem bs_eq (a b : ByteArray) : (a.toList == b.toList) = decide (a = b) := by
  rw [Lib.toList_data, Lib.toList_data, Bool.eq_iff_iff, beq_iff_eq, decide_eq_true_eq]
  exact ⟨fun h => bs_inj h, fun h => by rw [h]⟩

instance memDec (t : ByteArray) (l : List ByteArray) : Decidable (t ∈ l) := decidable_of_iff (l.any (fun x => decide (x = t)) = true) (by simp)

/-- Is one of some. -/
theorem in_is (N : Nat) (l : List ByteArray) (t : ByteArray) (hl : l.length < 100000) (hN : 100000 < N) : bautaref09_In N l t = some (decide (t ∈ l)) := by
  have key := loop_find (s := fun v => bautaref09_In_l2_T N l t v) (fun i : Nat => (i : Int)) (fun i => l.getD i ByteArray.empty ≠ t) l.length (fun _ => .inl ()) (.inr ()) (m := N) (by omega) (fun i hi _ => ?_) (fun _ => ?_)
  · simp only [bautaref09_In, bautaref09_In_T, run_call, bautaref09_In_l2]
    rw [show (0 : Int) = ((0 : Nat) : Int) from rfl]
    rcases key with ⟨h, e⟩ | ⟨i, hi, hp, _, e⟩
    · rw [e]
      simp only [Option.bind_some, run_inr, run_ret, Option.some.injEq]
      symm
      rw [decide_eq_false_iff_not]
      intro hc
      obtain ⟨i, hi, e⟩ := List.mem_iff_getElem.1 hc
      exact h i hi (by rw [getD_nat _ _ _ hi]; exact e)
    · rw [e]
      simp only [Option.bind_some, run_inl, run_ret, Option.some.injEq]
      symm
      rw [decide_eq_true_eq, ← Classical.not_not.1 hp]
      exact getD_memT _ _ hi
  · simp only [bautaref09_In_l2_T, run_br, run_call, run_ret, ltI_iff, inRange_iff, toNat_nat, bs_eq, decide_eq_true_eq]
    rw [if_pos (by omega), if_pos (by omega), i64_succ (by omega)]
    by_cases h : l.getD i ByteArray.empty = t
    · refine .inr ⟨fun hh => hh h, by rw [if_pos h]⟩
    · refine .inl ⟨h, by rw [if_neg h]⟩
  · simp only [bautaref09_In_l2_T, run_br, run_ret, ltI_iff]
    rw [if_neg (by omega)]

theorem contains_is (N : Nat) (l : List ByteArray) (t : ByteArray) (hl : l.length < 100000) (hN : 100000 < N) : slices_Contains N l t = some (decide (t ∈ l)) := by
  have key := loop_find (s := fun v => slices_Index_l2_T N l t (l.length : Int) v) (fun i : Nat => (i : Int)) (fun i => t ≠ l.getD i ByteArray.empty) l.length (fun i => .inl (i : Int)) (.inr ()) (m := N) (by omega) (fun i hi _ => ?_) (fun _ => ?_)
  · simp only [slices_Contains, slices_Contains_T, slices_Index, slices_Index_T, run_call, slices_Index_l2]
    rw [show (0 : Int) = ((0 : Nat) : Int) from rfl]
    rcases key with ⟨h, e⟩ | ⟨i, hi, hp, _, e⟩
    · rw [e]
      simp only [Option.bind_some, run_inr, run_ret, Option.some.injEq]
      symm
      have : leI ((0 : Nat) : Int) (-1) = false := rfl
      rw [this, decide_eq_false_iff_not]
      intro hc
      obtain ⟨i, hi, e⟩ := List.mem_iff_getElem.1 hc
      exact h i hi (by rw [getD_nat _ _ _ hi]; exact e.symm)
    · rw [e]
      simp only [Option.bind_some, run_inl, run_ret, Option.some.injEq]
      rw [leI_eq, decide_eq_decide]
      refine ⟨fun _ => ?_, fun _ => by omega⟩
      rw [Classical.not_not.1 hp]
      exact getD_memT _ _ hi
  · simp only [slices_Index_l2_T, run_br, run_call, run_ret, ltI_iff, inRange_iff, toNat_nat, bs_eq, decide_eq_true_eq]
    rw [if_pos (by omega), if_pos (by omega), i64_succ (by omega)]
    by_cases h : t = l.getD i ByteArray.empty
    · refine .inr ⟨fun hh => hh h, by rw [if_pos h]⟩
    · refine .inl ⟨h, by rw [if_neg h]⟩
  · simp only [slices_Index_l2_T, run_br, run_ret, ltI_iff]
    rw [if_neg (by omega)]

/-- Lists held against each other. -/
theorem names_refl (N : Nat) (l : List ByteArray) (hl : l.length < 100000) (hN : 100000 < N) : bautaref10_Names N l l = some true := by
  have key : bautaref10_Names_l4 N l l ((0 : Nat) : Int) = some (.inr ()) := by
    unfold bautaref10_Names_l4
    refine loop_up (fun i : Nat => (i : Int)) l.length _ (by omega) (by omega) (fun i _ hi => ?_) ?_
    · simp only [bautaref10_Names_l4_T, run_br, run_call, run_ret, ltI_iff, inRange_iff, toNat_nat, beq_self_eq_true, Bool.not_true, Bool.false_eq_true, if_false]
      rw [if_pos (by omega), if_pos (by omega), if_pos (by omega), i64_succ (by omega)]
    · simp only [bautaref10_Names_l4_T, run_br, run_ret, ltI_iff]
      rw [if_neg (by omega)]
  simp only [bautaref10_Names, bautaref10_Names_T, run_br, run_call, run_ret, bne_self_eq_false, Bool.false_eq_true, if_false]
  rw [show (0 : Int) = ((0 : Nat) : Int) from rfl, key]
  rfl

/-! ### Which names stand in a tree -/
mutual
def usesF : List ByteArray → Node → List ByteArray
  | o, .mk k s _ _ l _ => usesL (if k = 1 ∧ s ∉ o then o ++ [s] else o) l
def usesL : List ByteArray → List Node → List ByteArray
  | o, [] => o
  | o, x :: l => usesL (usesF o x) l
end
theorem usesF_eq (o : List ByteArray) (x : Node) : usesF o x = usesL (if x.k = 1 ∧ x.s ∉ o then o ++ [x.s] else o) x.l := by cases x; rw [usesF]; rfl
theorem usesL_append : ∀ (a b : List Node) (o : List ByteArray), usesL o (a ++ b) = usesL (usesL o a) b
  | [], b, o => by simp [usesL]
  | x :: a, b, o => by simp only [List.cons_append, usesL, usesL_append a b]
theorem usesL_take (l : List Node) (o : List ByteArray) {i : Nat} (h : i < l.length) : usesL o (l.take (i + 1)) = usesF (usesL o (l.take i)) (l.getD i nd0) := by
  rw [takeS l nd0 h, usesL_append]; simp [usesL]
mutual
theorem usesF_len : ∀ (x : Node) (o : List ByteArray), (usesF o x).length ≤ o.length + cntN x
  | .mk k s n a l p, o => by
    rw [usesF, cntN]
    have := usesL_len l (if k = 1 ∧ s ∉ o then o ++ [s] else o)
    split at this <;> rename_i hc
    · rw [if_pos hc]; simp at this; omega
    · rw [if_neg hc]; omega
theorem usesL_len : ∀ (l : List Node) (o : List ByteArray), (usesL o l).length ≤ o.length + cntL l
  | [], o => by simp [usesL, cntL]
  | x :: l, o => by
    rw [usesL, cntL]
    have := usesL_len l (usesF o x)
    have := usesF_len x o
    omega
end

theorem ruses_R (N : Nat) (hN : 100000 < N) : ∀ (k : Nat) (x : Node) (o : List ByteArray), depN x ≤ k → o.length + cntN x ≤ 50000 → bautaref12_Uses_R N k x.k x.s x.n x.a x.l x.p o = some (usesF o x)
  | 0, x, o, h, _ => by rw [depN_eq] at h; omega
  | k + 1, x, o, h, hc => by
    rw [depN_eq] at h
    rw [cntN_eq] at hc
    have loop : ∀ o' : List ByteArray, o'.length ≤ o.length + 1 → bautaref12_Uses_j3 N (bautaref12_Uses_R N k) o' x.l = some (usesL o' x.l) := by
      intro o' ho
      have hl := len_cntL x.l
      have key : bautaref12_Uses_l4 N (bautaref12_Uses_R N k) x.l (((0 : Nat) : Int), o') = some (usesL o' x.l) := by
        unfold bautaref12_Uses_l4
        refine loop_up (s := fun v : Int × List ByteArray => bautaref12_Uses_l4_T N (bautaref12_Uses_R N k) x.l v.1 v.2) (fun i : Nat => ((i : Int), usesL o' (x.l.take i))) x.l.length _ (k := 0) (by omega) (by omega) (fun i _ hi => ?_) ?_
        · have hm : x.l.getD i nd0 ∈ x.l := getD_memT _ _ hi
          have hd := dep_mem hm
          have hcn := cntL_take x.l hi
          have hct : cntL (x.l.take (i + 1)) ≤ cntL x.l := by
            have := cntL_append (x.l.take (i + 1)) (x.l.drop (i + 1))
            rw [List.take_append_drop] at this
            omega
          have hul := usesL_len (x.l.take i) o'
          have ih := ruses_R N hN k (x.l.getD i nd0) (usesL o' (x.l.take i)) (by omega) (by omega)
          simp only [bautaref12_Uses_l4_T, run_br, run_call, run_ret, ltI_iff, inRange_iff, toNat_nat]
          rw [if_pos (by omega), if_pos (by omega), ih, usesL_take x.l o' hi, i64_succ (by omega)]
          rfl
        · simp only [bautaref12_Uses_l4_T, run_br, run_ret, ltI_iff, List.take_length]
          rw [if_neg (by omega)]
      simp only [bautaref12_Uses_j3, bautaref12_Uses_j3_T, run_call, run_ret]
      rw [show (0 : Int) = ((0 : Nat) : Int) from rfl, key]
      rfl
    show (bautaref12_Uses_T N (bautaref12_Uses_R N k) x.k x.s x.n x.a x.l x.p o).run some = _
    simp only [bautaref12_Uses_T, run_br, run_call, run_ret, in_is N o x.s (by omega) hN, Option.bind_some, beq_iff_eq, Bool.not_eq_true', decide_eq_false_iff_not, ltI_iff]
    rw [usesF_eq]
    by_cases h1 : x.k = 1
    · rw [if_pos h1]
      by_cases h2 : x.s ∈ o
      · rw [if_neg (by simpa using h2), if_neg (by simp [h2]), loop o (by omega)]; rfl
      · rw [if_pos h2, if_pos (show x.k = 1 ∧ x.s ∉ o from ⟨h1, h2⟩), if_pos (by omega), loop _ (by simp)]; rfl
    · rw [if_neg h1, if_neg (by simp [h1]), loop o (by omega)]; rfl

theorem uses_R (N : Nat) (hN : 100000 < N) : ∀ (k : Nat) (x : Node) (o : List ByteArray), depN x ≤ k → o.length + cntN x ≤ 50000 → names_uses_R N k x.k x.s x.n x.a x.l x.p o = some (usesF o x)
  | 0, x, o, h, _ => by rw [depN_eq] at h; omega
  | k + 1, x, o, h, hc => by
    rw [depN_eq] at h
    rw [cntN_eq] at hc
    have loop : ∀ o' : List ByteArray, o'.length ≤ o.length + 1 → names_uses_j3 N (names_uses_R N k) o' x.l = some (usesL o' x.l) := by
      intro o' ho
      have hl := len_cntL x.l
      have key : names_uses_l4 N (names_uses_R N k) x.l (x.l.length : Int) (((0 : Nat) : Int), o') = some (usesL o' x.l) := by
        unfold names_uses_l4
        refine loop_up (s := fun v : Int × List ByteArray => names_uses_l4_T N (names_uses_R N k) x.l (x.l.length : Int) v.1 v.2) (fun i : Nat => ((i : Int), usesL o' (x.l.take i))) x.l.length _ (k := 0) (by omega) (by omega) (fun i _ hi => ?_) ?_
        · have hm : x.l.getD i nd0 ∈ x.l := getD_memT _ _ hi
          have hd := dep_mem hm
          have hcn := cntL_take x.l hi
          have hct : cntL (x.l.take (i + 1)) ≤ cntL x.l := by
            have := cntL_append (x.l.take (i + 1)) (x.l.drop (i + 1))
            rw [List.take_append_drop] at this
            omega
          have hul := usesL_len (x.l.take i) o'
          have ih := uses_R N hN k (x.l.getD i nd0) (usesL o' (x.l.take i)) (by omega) (by omega)
          simp only [names_uses_l4_T, run_br, run_call, run_ret, ltI_iff, inRange_iff, toNat_nat]
          rw [if_pos (by omega), if_pos (by omega), ih, usesL_take x.l o' hi, i64_succ (by omega)]
          rfl
        · simp only [names_uses_l4_T, run_br, run_ret, ltI_iff, List.take_length]
          rw [if_neg (by omega)]
      simp only [names_uses_j3, names_uses_j3_T, run_call, run_ret]
      rw [show (0 : Int) = ((0 : Nat) : Int) from rfl, key]
      rfl
    show (names_uses_T N (names_uses_R N k) x.k x.s x.n x.a x.l x.p o).run some = _
    simp only [names_uses_T, run_br, run_call, run_ret, contains_is N o x.s (by omega) hN, Option.bind_some, beq_iff_eq, Bool.not_eq_true', decide_eq_false_iff_not, ltI_iff]
    rw [usesF_eq]
    by_cases h1 : x.k = 1
    · rw [if_pos h1]
      by_cases h2 : x.s ∈ o
      · rw [if_neg (by simpa using h2), if_neg (by simp [h2]), loop o (by omega)]; rfl
      · rw [if_pos h2, if_pos (show x.k = 1 ∧ x.s ∉ o from ⟨h1, h2⟩), if_pos (by omega), loop _ (by simp)]; rfl
    · rw [if_neg h1, if_neg (by simp [h1]), loop o (by omega)]; rfl

theorem names_lives (m : Nat) : bautalaw12_lives (m + 200) = some true := by kernel_rfl
theorem lives_ok (N : Nat) (h : 200 ≤ N) : bautalaw12_lives N = some true := by
  obtain ⟨m, rfl⟩ : ∃ m, N = m + 200 := ⟨N - 200, by omega⟩
  exact names_lives m

theorem namesUses_N (N : Nat) (hN : 100000 < N) (x : Node) : bautalaw12_NamesUses N x.k x.s x.n x.a x.l x.p = some true := by
  obtain ⟨b, hb, h⟩ := small_is N (by omega) x
  simp only [bautalaw12_NamesUses, bautalaw12_NamesUses_T, run_call, run_br, run_ret, hb, Option.bind_some, lives_ok N (by omega)]
  cases b with
  | false => rfl
  | true =>
    obtain ⟨h1, h2⟩ := h rfl
    have u1 : names_Uses N x.k x.s x.n x.a x.l x.p = some (usesF [] x) := by
      simp only [names_Uses, names_Uses_T, run_call, run_ret, names_uses_n, names_uses]
      rw [uses_R N hN N x [] (by omega) (by simp; omega)]; rfl
    have u2 : bautaref12_Uses_n N x.k x.s x.n x.a x.l x.p = some (usesF [] x) := by
      simp only [bautaref12_Uses_n, bautaref12_Uses]
      rw [ruses_R N hN N x [] (by omega) (by simp; omega)]
    have hl := usesF_len x []
    rw [u1, u2]
    simp only [Option.bind_some, names_refl N (usesF [] x) (by simp at hl; omega) hN]
    rfl
theorem namesUses_law (x : Node) (h : WF .node x) : bautalaw12_NamesUses 100002 x.k x.s x.n x.a x.l x.p = some true := namesUses_N 100002 (by omega) x
end Go.Proofs.YtfogafinohfpfaaGreatDoorV
