/- The tokens of a text: lex's and the reference's are the same. -/
import Derived.Test.YtfbnofpfinenkaaDoorPLexB
namespace Go.Proofs.YtfbnofpfinenkaaDoorV
set_option linter.unusedVariables false
set_option linter.unusedSimpArgs false

theorem in_is (N : Nat) (l : List ByteArray) (t : ByteArray) (hl : l.length < 1000) (hN : 1000 < N) : bautaref09_In N l t = some ((l.map bs).contains (bs t)) := by
  have key := loop_find (s := fun v => bautaref09_In_l2_T N l t v) (fun i : Nat => (i : Int)) (fun i => bs (l.getD i ByteArray.empty) ≠ bs t) l.length (fun _ => .inl ()) (.inr ()) (m := N) (by omega) (fun i hi _ => ?_) (fun _ => ?_)
  · simp only [bautaref09_In, bautaref09_In_T, run_call, bautaref09_In_l2]
    rw [show (0 : Int) = ((0 : Nat) : Int) from rfl]
    rcases key with ⟨h, e⟩ | ⟨i, hi, hp, _, e⟩
    · rw [e]
      simp only [Option.bind_some, run_inr, run_ret, Option.some.injEq]
      symm
      rw [Bool.eq_false_iff]
      intro hc
      rw [List.contains_iff_mem, List.mem_map] at hc
      obtain ⟨x, hx, hxe⟩ := hc
      obtain ⟨i, hi, rfl⟩ := List.mem_iff_getElem.1 hx
      exact h i hi (by rw [getD_nat _ _ _ hi]; exact hxe)
    · rw [e]
      simp only [Option.bind_some, run_inl, run_ret, Option.some.injEq]
      symm
      rw [List.contains_iff_mem, List.mem_map]
      refine ⟨l.getD i ByteArray.empty, ?_, Classical.not_not.1 hp⟩
      rw [getD_nat _ _ _ hi]
      exact List.getElem_mem hi
  · simp only [bautaref09_In_l2_T, run_br, run_call, run_ret, ltI_iff, inRange_iff, toNat_nat, Lib.toList_data, beq_iff_eq]
    rw [if_pos (by omega), if_pos (by omega), i64_succ (by omega)]
    by_cases h : bs (l.getD i ByteArray.empty) = bs t
    · refine .inr ⟨fun hh => hh h, by rw [if_pos h]⟩
    · refine .inl ⟨h, by rw [if_neg h]⟩
  · simp only [bautaref09_In_l2_T, run_br, run_ret, ltI_iff]
    rw [if_neg (by omega)]

theorem rword_is (N : Nat) (hN : 1000 < N) (s : ByteArray) : bautaref09_Word N s = some (isWordL (bs s)) := by
  simp only [bautaref09_Word, bautaref09_Word_T, run_call, run_ret]
  rw [in_is _ _ _ (by simp) hN]
  rfl

theorem word_let {l : List UInt8} (h : isWordL l = true) : isLet (l.getD 0 0) = true := by
  have hm : l ∈ w7 := by simpa [isWordL] using h
  have : ∀ l ∈ w7, isLet (l.getD 0 0) = true := by decide +kernel
  exact this l hm

theorem pre_take (p l : List UInt8) : p.isPrefixOf l = (l.take p.length == p) := by
  rw [Bool.eq_iff_iff, List.isPrefixOf_iff_prefix, List.prefix_iff_eq_take, beq_iff_eq]
  exact ⟨fun h => h.symm, fun h => h.symm⟩
theorem pre_short {p l : List UInt8} (h : l.length < p.length) : p.isPrefixOf l = false := by
  rw [Bool.eq_false_iff]
  intro hh
  have := pre_le hh
  omega

def j10R (i : Nat) : Option (Nat × Nat) → Unit ⊕ (Int × Int)
  | none => .inl ()
  | some (k, n) => .inr (((i + n : Nat) : Int), (k : Int))

section
variable (N : Nat) (s : ByteArray) (hs : s.size ≤ 20000) (hN : 20010 < N) (i : Nat) (hi : i < s.size)
include hs hN hi

theorem rrun_is (p : UInt8 → Bool) (c : UInt8) (hp : ∀ d, p d = (isLet d || isDig d || (decide (d.toNat = 95) && isLet c))) : bautaref09_Words_l10 N s (c.toNat : Int) ((i + 1 : Nat) : Int) = some (((i + 1 + tw p ((bs s).drop (i + 1)) : Nat)) : Int) := by
  refine run_from (T := fun v => bautaref09_Words_l10_T N s (c.toNat : Int) v) s p (fun i hi => ?_) (by rw [bautaref09_Words_l10_T]; exact runE) (by omega) (by omega)
  simp only [bautaref09_Words_l10_T, run_br, run_call, run_ret, ltI_iff, inRange_iff, toNat_nat, bAt_is, rletter_is, rnum_is, Option.bind_some]
  have hr : (0 : Int) ≤ (i : Int) ∧ (i : Int) < (s.size : Int) := by omega
  simp only [if_pos hr, if_pos hr.2, i64_succ (by omega : i < 9223372036854775807)]
  rw [show (95 : Int) = ((95 : Nat) : Int) from rfl, beqn, hp]
  cases isLet ((bs s).getD i 0) <;> cases isDig ((bs s).getD i 0) <;> cases (decide (((bs s).getD i 0).toNat = 95)) <;> cases isLet c <;> rfl

theorem j10_t (h : (isLet ((bs s).getD i 0) || isDig ((bs s).getD i 0)) = true) : bautaref09_Words_j10 N s (i : Int) ((i + 1 : Nat) : Int) (((bs s).getD i 0).toNat : Int) true = some (j10R i (nxt ((bs s).drop i))) := by
  have hl := bs_size s
  have hdr := drop_at (bs s) (by omega : i < (bs s).length)
  have g0 : ((bs s).drop i).getD 0 0 = (bs s).getD i 0 := by rw [hdr]; rfl
  have hd : ((bs s).drop i).length = s.size - i := by rw [List.length_drop]; omega
  simp only [nxt, g0]
  generalize hc : (bs s).getD i 0 = c at *
  have both : ∀ p : UInt8 → Bool, (∀ d, p d = (isLet d || isDig d || (decide (d.toNat = 95) && isLet c))) → bautaref09_Words_l10 N s (c.toNat : Int) ((i + 1 : Nat) : Int) = some (((i + tw p ((bs s).drop i) : Nat)) : Int) ∧ 0 < tw p ((bs s).drop i) := by
    intro p hp
    have hpc : p c = true := by rw [hp, h]; rfl
    have := rrun_is N s hs hN i hi p c hp
    rw [hdr, tw, if_pos hpc]
    refine ⟨?_, by omega⟩
    rw [this]
    congr 2; omega
  have j17 : ∀ (n : Nat) (K : Int), n ≤ 20000 → bautaref09_Words_j17 N (i : Int) ((i + n : Nat) : Int) K = some (if K = 1 ∧ 32 < n then .inl () else .inr ()) := by
    intro n K hn
    simp only [bautaref09_Words_j17, bautaref09_Words_j17_T, run_br, run_ret, beq_iff_eq, ltI_iff]
    rw [i64_in (by omega)]
    by_cases h1 : K = 1
    · by_cases h2 : 32 < n
      · rw [if_pos h1, if_pos (by omega), if_pos ⟨h1, h2⟩]
      · rw [if_pos h1, if_neg (by omega), if_neg (by omega)]
    · rw [if_neg h1, if_neg (by omega)]
  by_cases hlc : isLet c = true
  · obtain ⟨e, hpos⟩ := both isInn (fun d => by rw [hlc]; simp [isInn])
    have ht := tw_le isInn ((bs s).drop i)
    generalize hn : tw isInn ((bs s).drop i) = n at *
    have hx : bs (s.extract i (i + n)) = ((bs s).drop i).take n := by rw [bs_extract, Nat.add_sub_cancel_left]
    have hw := rword_is N (by omega) (s.extract i (i + n))
    rw [hx] at hw
    simp only [bautaref09_Words_j10, bautaref09_Words_j10_T, run_br, run_call, run_ret, if_true, e, Option.bind_some, leI_iff, Bool.and_eq_true, toNat_nat, hw, rletter_is, hlc, j17 n _ (by omega)]
    rw [if_pos (by omega)]
    by_cases hh : isWordL (((bs s).drop i).take n) = true
    · simp only [if_pos hh]; rfl
    · simp only [if_neg hh]
      by_cases h32 : 32 < n
      · simp only [if_pos h32]; simp [h32]; rfl
      · simp only [if_neg h32]; simp [h32]; rfl
  · obtain ⟨e, hpos⟩ := both isAln (fun d => by rw [Bool.eq_false_iff.2 hlc]; simp [isAln])
    have hdc : isDig c = true := by simpa [Bool.eq_false_iff.2 hlc] using h
    have ht := tw_le isAln ((bs s).drop i)
    generalize hn : tw isAln ((bs s).drop i) = n at *
    have hx : bs (s.extract i (i + n)) = ((bs s).drop i).take n := by rw [bs_extract, Nat.add_sub_cancel_left]
    have hw := rword_is N (by omega) (s.extract i (i + n))
    rw [hx] at hw
    have hno : isWordL (((bs s).drop i).take n) = false := by
      rw [Bool.eq_false_iff]
      intro hh
      have := word_let hh
      rw [getD_take _ _ hpos, g0] at this
      exact hlc this
    simp only [bautaref09_Words_j10, bautaref09_Words_j10_T, run_br, run_call, run_ret, if_true, e, Option.bind_some, leI_iff, Bool.and_eq_true, toNat_nat, hw, hno, rletter_is, if_neg hlc, if_pos hdc, j17 n _ (by omega)]
    rw [if_pos (by omega)]
    rfl

theorem j10_f (h : (isLet ((bs s).getD i 0) || isDig ((bs s).getD i 0)) = false) : bautaref09_Words_j10 N s (i : Int) ((i + 1 : Nat) : Int) (((bs s).getD i 0).toNat : Int) false = some (j10R i (nxt ((bs s).drop i))) := by
  have hl := bs_size s
  have hdr := drop_at (bs s) (by omega : i < (bs s).length)
  have g0 : ((bs s).drop i).getD 0 0 = (bs s).getD i 0 := by rw [hdr]; rfl
  have hd : ((bs s).drop i).length = s.size - i := by rw [List.length_drop]; omega
  rw [Bool.or_eq_false_iff] at h
  have h1 : isLet ((bs s).getD i 0) = false := h.1
  have h2 : isDig ((bs s).getD i 0) = false := h.2
  simp only [nxt, g0, h1, h2]
  have hx : ∀ n, bs (s.extract i (i + n)) = ((bs s).drop i).take n := fun n => by rw [bs_extract, Nat.add_sub_cancel_left]
  have w1 : IntKind.i64.wrap ((i : Int) + 1) = ((i + 1 : Nat) : Int) := i64_succ (by omega)
  have w2 : IntKind.i64.wrap ((i : Int) + 2) = ((i + 2 : Nat) : Int) := by rw [i64_in (by omega)]; rfl
  have w3 : IntKind.i64.wrap ((i : Int) + 3) = ((i + 3 : Nat) : Int) := by rw [i64_in (by omega)]; rfl
  have t1 : ((bs s).drop i).take 1 = [(bs s).getD i 0] := by rw [hdr]; rfl
  have j23t : bautaref09_Words_j23 N s (i : Int) ((i + 1 : Nat) : Int) true = some (.inl ((i + 2 : Nat) : Int)) := by
    simp only [bautaref09_Words_j23, bautaref09_Words_j23_T, run_br, run_ret, if_true, w2]
  have j23f : bautaref09_Words_j23 N s (i : Int) ((i + 1 : Nat) : Int) false = some (if sgn.contains ((bs s).getD i 0) = true then .inl ((i + 1 : Nat) : Int) else .inr ()) := by
    simp only [bautaref09_Words_j23, bautaref09_Words_j23_T, run_br, run_call, run_ret, w1, Bool.false_eq_true, if_false, leI_iff, Bool.and_eq_true, toNat_nat]
    rw [if_pos (by omega), in_is _ _ _ (by simp) (by omega), hx, t1, Option.bind_some]
    rw [show ∀ l : List UInt8, (List.map bs [(⟨#[61]⟩ : ByteArray), (⟨#[59]⟩ : ByteArray), (⟨#[44]⟩ : ByteArray), (⟨#[40]⟩ : ByteArray), (⟨#[41]⟩ : ByteArray), (⟨#[123]⟩ : ByteArray), (⟨#[125]⟩ : ByteArray), (⟨#[43]⟩ : ByteArray), (⟨#[45]⟩ : ByteArray), (⟨#[38]⟩ : ByteArray), (⟨#[124]⟩ : ByteArray), (⟨#[94]⟩ : ByteArray), (⟨#[126]⟩ : ByteArray)]).contains l = (sgn.map fun c => [c]).contains l from fun _ => rfl]
    have e : (sgn.map fun c => [c]).contains [(bs s).getD i 0] = sgn.contains ((bs s).getD i 0) := by
      generalize (bs s).getD i 0 = c
      rw [Bool.eq_iff_iff, List.contains_iff_mem, List.contains_iff_mem, List.mem_map]
      constructor
      · rintro ⟨x, hx, he⟩
        rw [← (List.cons.inj he).1]; exact hx
      · intro h; exact ⟨c, h, rfl⟩
    rw [e]
    cases sgn.contains ((bs s).getD i 0) <;> rfl
  have j21t : bautaref09_Words_j21 N s (i : Int) ((i + 1 : Nat) : Int) true = some (.inl ((i + 3 : Nat) : Int)) := by
    simp only [bautaref09_Words_j21, bautaref09_Words_j21_T, run_br, run_ret, if_true, w3]
  have j21f : bautaref09_Words_j21 N s (i : Int) ((i + 1 : Nat) : Int) false = some (if ([60, 60] : List UInt8).isPrefixOf ((bs s).drop i) = true ∨ ([62, 62] : List UInt8).isPrefixOf ((bs s).drop i) = true ∨ ([46, 46] : List UInt8).isPrefixOf ((bs s).drop i) = true then .inl ((i + 2 : Nat) : Int) else if sgn.contains ((bs s).getD i 0) = true then .inl ((i + 1 : Nat) : Int) else .inr ()) := by
    simp only [bautaref09_Words_j21, bautaref09_Words_j21_T, run_br, run_call, run_ret, w2, Bool.false_eq_true, if_false, leI_iff, Bool.and_eq_true, toNat_nat]
    by_cases hle : i + 2 ≤ s.size
    · rw [if_pos (by omega), if_pos (by omega), in_is _ _ _ (by simp) (by omega), hx, Option.bind_some]
      rw [show ∀ l : List UInt8, (List.map bs [(⟨#[60, 60]⟩ : ByteArray), (⟨#[62, 62]⟩ : ByteArray), (⟨#[46, 46]⟩ : ByteArray)]).contains l = ([[60, 60], [62, 62], [46, 46]] : List (List UInt8)).contains l from fun _ => rfl]
      simp only [pre_take, List.length_cons, List.length_nil, Nat.zero_add, Nat.reduceAdd]
      generalize ((bs s).drop i).take 2 = l
      have e : ([[60, 60], [62, 62], [46, 46]] : List (List UInt8)).contains l = decide ((l == [60, 60]) = true ∨ (l == [62, 62]) = true ∨ (l == [46, 46]) = true) := by
        rw [Bool.eq_iff_iff]; simp
      rw [e]
      by_cases hh : (l == [60, 60]) = true ∨ (l == [62, 62]) = true ∨ (l == [46, 46]) = true
      · rw [if_pos hh, decide_eq_true hh, j23t]; rfl
      · rw [if_neg hh, decide_eq_false hh, j23f, Option.bind_some]; split <;> rfl
    · rw [if_neg (by omega), j23f, Option.bind_some]
      have no : ¬ (([60, 60] : List UInt8).isPrefixOf ((bs s).drop i) = true ∨ ([62, 62] : List UInt8).isPrefixOf ((bs s).drop i) = true ∨ ([46, 46] : List UInt8).isPrefixOf ((bs s).drop i) = true) := by
        rintro (hh | hh | hh) <;> have := pre_le hh <;> simp at this <;> omega
      rw [if_neg no]
      split <;> rfl
  simp only [bautaref09_Words_j10, bautaref09_Words_j10_T, run_br, run_call, run_ret, Bool.false_eq_true, if_false, w3, leI_iff, Bool.and_eq_true, toNat_nat]
  by_cases h3 : ([60, 60, 60] : List UInt8).isPrefixOf ((bs s).drop i) = true
  · have hle := pre_le h3
    simp only [List.length_cons, List.length_nil, hd] at hle
    rw [if_pos (by omega), if_pos (by omega)]
    have e : ((s.extract i (i + 3)).toList == (⟨#[60, 60, 60]⟩ : ByteArray).toList) = true := by
      rw [Lib.toList_data, Lib.toList_data, show (s.extract i (i + 3)).data.toList = _ from hx 3]
      rw [pre_take] at h3; exact h3
    rw [e, j21t, if_pos h3]
    rfl
  · rw [if_neg h3]
    have fin : ∀ o : Option (Int ⊕ Unit), o = bautaref09_Words_j21 N s (i : Int) ((i + 1 : Nat) : Int) false → (o.bind fun y => (Tree.alt y (fun a => Tree.ret (Sum.inr (a, 4))) (fun _ => Tree.ret (Sum.inl ()))).run some) = some (j10R i (if ([60, 60] : List UInt8).isPrefixOf ((bs s).drop i) = true ∨ ([62, 62] : List UInt8).isPrefixOf ((bs s).drop i) = true ∨ ([46, 46] : List UInt8).isPrefixOf ((bs s).drop i) = true then some (4, 2) else if sgn.contains ((bs s).getD i 0) = true then some (4, 1) else none)) := by
      rintro o rfl
      rw [j21f, Option.bind_some]
      split
      · rfl
      · split <;> rfl
    by_cases hle : i + 3 ≤ s.size
    · rw [if_pos (by omega), if_pos (by omega)]
      have e : ((s.extract i (i + 3)).toList == (⟨#[60, 60, 60]⟩ : ByteArray).toList) = false := by
        rw [Lib.toList_data, Lib.toList_data, show (s.extract i (i + 3)).data.toList = _ from hx 3]
        rw [pre_take] at h3; exact Bool.eq_false_iff.2 h3
      rw [e]
      exact fin _ rfl
    · rw [if_neg (by omega)]
      exact fin _ rfl
end

/-! ### The tokens -/
abbrev Tok := Int × (ByteArray × Int)
def toks (s : ByteArray) : Nat → Nat → List Tok → Int × Int × List Tok
  | 0, _, acc => (0, 0, acc)
  | f + 1, a, acc => if a < s.size then
      match nxt ((bs s).drop a) with
      | none => ((a : Int), 100, [])
      | some (k, n) => if acc.length = 4000 then ((a : Int), 150, []) else toks s f (a + n + skipL ((bs s).drop (a + n))) (acc ++ [((k : Int), (s.extract a (a + n), (a : Int)))])
    else if acc.length = 4000 then ((a : Int), 150, []) else (0, 0, acc ++ [(0, (ByteArray.empty, (a : Int)))])
def wds (s : ByteArray) : Int × Int × List Tok := if 20000 < s.size then (0, 150, []) else toks s (s.size + 1) (skipL (bs s)) []

theorem j9_is (N : Nat) (e K A : Int) (S : ByteArray) (r : List Tok) (hr : r.length ≤ 4000) : lex_Words_round5_j9 N e K S A r = some (if e = 0 then .inr (r ++ [(K, (S, A))]) else .inl ()) := by
  simp only [lex_Words_round5_j9, lex_Words_round5_j9_T, run_br, run_ret, bne_iff_ne, ne_eq, ltI_iff, ite_not]
  by_cases h : e = 0
  · rw [if_pos h, if_pos h, if_pos (by omega)]
  · rw [if_neg h, if_neg h]
theorem round_is (N : Nat) (e K A : Int) (S : ByteArray) (r : List Tok) (hr : r.length ≤ 4000) : lex_Words_round5 N K S A e r = some (if e = 0 then (if r.length = 4000 then .inl 150 else .inr (r ++ [(K, (S, A))])) else .inl e) := by
  simp only [lex_Words_round5, lex_Words_round5_T, run_br, run_call, run_ret, j9_is _ _ _ _ _ _ hr, Option.bind_some, beq_iff_eq]
  by_cases h : e = 0
  · simp only [if_pos h]
    by_cases h4 : r.length = 4000
    · rw [if_pos (by omega), if_pos h4]; rfl
    · rw [if_neg (by omega), if_neg h4]; rfl
  · simp only [if_neg h]; rfl

def fin (s : ByteArray) : ((Int × Int × List Tok) ⊕ (List Tok) ⊕ (List Tok)) → Int × Int × List Tok
  | .inl x => (x.1, x.2.1, [])
  | .inr (.inl l) => (0, 0, l)
  | .inr (.inr l) => if l.length = 4000 then ((s.size : Int), 150, []) else (0, 0, l ++ [(0, (ByteArray.empty, (s.size : Int)))])

theorem each_loop (N : Nat) (s : ByteArray) (hs : s.size ≤ 20000) (hN : 20020 < N) : ∀ (f a : Nat) (acc : List Tok) (m : Nat), s.size - a < f → a ≤ s.size → acc.length ≤ 4000 → f ≤ m →
    ∃ o, loopN (fun v => lex_each_1_l1_T N s v.1 v.2) m ((a : Int), acc) = some o ∧ fin s o = toks s f a acc ∧ ∀ l, o = .inr (.inr l) → l.length ≤ 4000
  | 0, a, acc, m, h, _, _, _ => by omega
  | f + 1, a, acc, m, hf, ha, hacc, hm => by
    have hl := bs_size s
    rw [toks]
    rcases Nat.lt_or_ge a s.size with h | h
    · have hne : (bs s).drop a ≠ [] := by
        intro e
        have := congrArg List.length e
        rw [List.length_drop] at this
        rw [← bs_size, List.length_nil] at this
        omega
      have hd : ((bs s).drop a).length = s.size - a := by rw [List.length_drop]; omega
      have hx := next_is N (s.extract a s.size) (by rw [size_tail]; omega) (by rw [size_tail]; omega) (by rw [size_tail]; omega)
      rw [bs_tail] at hx
      rw [if_pos h]
      have c1 : (0 : Int) ≤ (a : Int) ∧ (a : Int) ≤ (s.size : Int) := by omega
      have c2 : (a : Int) < (s.size : Int) := by omega
      cases hn : nxt ((bs s).drop a) with
      | none =>
        rw [hn] at hx
        refine ⟨.inl ((a : Int), 100, acc), loop_stop (by omega) ?_, rfl, fun l hl => by cases hl⟩
        simp only [lex_each_1_l1_T, run_br, run_call, run_ret, ltI_iff, leI_iff, Bool.and_eq_true, if_pos c2, if_pos c1, toNat_nat, hx, Option.bind_some, knR, round_is _ _ _ _ _ _ hacc]
        rfl
      | some kn =>
        obtain ⟨k, n⟩ := kn
        rw [hn] at hx
        obtain ⟨q1, q2, q3⟩ := nxt_len hne hn
        rw [hd] at q2
        have w : IntKind.i64.wrap ((a : Int) + (n : Int)) = ((a + n : Nat) : Int) := by rw [i64_in (by omega)]; rfl
        have c3 : (0 : Int) ≤ (a : Int) ∧ (a : Int) ≤ ((a + n : Nat) : Int) ∧ ((a + n : Nat) : Int) ≤ (s.size : Int) := by omega
        have c4 : (0 : Int) ≤ ((a + n : Nat) : Int) ∧ ((a + n : Nat) : Int) ≤ (s.size : Int) := by omega
        have c5 : ¬ (n : Int) < 0 := by omega
        have hb := blank_is N (s.extract (a + n) s.size) (by rw [size_tail]; omega) (by rw [size_tail]; omega)
        rw [bs_tail] at hb
        have hsk : skipL ((bs s).drop (a + n)) ≤ ((bs s).drop (a + n)).length := skip_le false ((bs s).drop (a + n))
        rw [List.length_drop, ← bs_size] at hsk
        have w2 : IntKind.i64.wrap (((a + n : Nat) : Int) + ((skipL ((bs s).drop (a + n)) : Nat) : Int)) = ((a + n + skipL ((bs s).drop (a + n)) : Nat) : Int) := by rw [i64_in (by omega)]; rfl
        have step : (lex_each_1_l1_T N s (a : Int) acc).run some = some (if acc.length = 4000 then .inr (.inl ((a : Int), 150, acc)) else .inl (((a + n + skipL ((bs s).drop (a + n)) : Nat) : Int), acc ++ [((k : Int), (s.extract a (a + n), (a : Int)))])) := by
          by_cases h4 : acc.length = 4000
          · simp only [lex_each_1_l1_T, run_br, run_call, run_ret, ltI_iff, leI_iff, Bool.and_eq_true, if_pos c2, if_pos c1, toNat_nat, hx, Option.bind_some, knR, if_neg c5, w, if_pos c3, if_pos c4, round_is _ _ _ _ _ _ hacc, if_true, if_pos h4, run_inl]
          · simp only [lex_each_1_l1_T, run_br, run_call, run_ret, ltI_iff, leI_iff, Bool.and_eq_true, if_pos c2, if_pos c1, toNat_nat, hx, Option.bind_some, knR, if_neg c5, w, if_pos c3, if_pos c4, round_is _ _ _ _ _ _ hacc, if_true, if_neg h4, run_inr, hb, w2]
        show ∃ o, _ ∧ fin s o = (if acc.length = 4000 then _ else _) ∧ _
        by_cases h4 : acc.length = 4000
        · rw [if_pos h4] at step ⊢
          exact ⟨.inl ((a : Int), 150, acc), loop_stop (by omega) step, rfl, fun l hl => by cases hl⟩
        · rw [if_neg h4] at step ⊢
          obtain ⟨o, o1, o2, o3⟩ := each_loop N s hs hN f (a + n + skipL ((bs s).drop (a + n))) (acc ++ [((k : Int), (s.extract a (a + n), (a : Int)))]) (m - 1) (by omega) (by omega) (by simp; omega) (by omega)
          exact ⟨o, loop_step (by omega) step o1, o2, o3⟩
    · obtain rfl : a = s.size := by omega
      rw [if_neg (by omega)]
      refine ⟨.inr (.inr acc), loop_stop (by omega) ?_, rfl, fun l hl => by cases hl; exact hacc⟩
      simp only [lex_each_1_l1_T, run_br, ltI_iff]
      rw [if_neg (by omega), run_ret]

theorem words_lex (N : Nat) (s : ByteArray) (hN : 20030 < N) : lex_Words N s = some (wds s) := by
  unfold wds
  simp only [lex_Words, lex_Words_T, run_br, run_call, run_ret, ltI_iff, lex_each, lex_each_T, Option.bind_some]
  by_cases h : 20000 < s.size
  · rw [if_pos (by omega), if_pos h]
  · rw [if_neg (by omega), if_neg h]
    have hsk : skipL (bs s) ≤ (bs s).length := skip_le false (bs s)
    rw [← bs_size] at hsk
    have hb := blank_is N s (by omega) (by omega)
    obtain ⟨o, o1, o2, o3⟩ := each_loop N s (by omega) (by omega) (s.size + 1) (skipL (bs s)) [] N (by omega) hsk (by simp) (by omega)
    rw [← o2]
    simp only [lex_each_1, lex_each_1_T, lex_each_1_l1, run_call, hb, Option.bind_some, o1]
    rcases o with x | l | l
    · rfl
    · rfl
    · have hl := o3 l rfl
      simp only [run_inr, run_call, round_is _ _ _ _ _ _ hl, Option.bind_some, if_true, fin]
      split <;> rfl

theorem j27_is (N : Nat) (s : ByteArray) (hs : s.size ≤ 20000) (hN : 20020 < N) (a b : Nat) (hb : b ≤ s.size ∨ a = s.size) (acc : List Tok) (hacc : acc.length ≤ 4000) (K A : Int) (S : ByteArray) :
    bautaref09_Words_j27 N s (a : Int) (b : Int) acc K S A = some (if acc.length = 4000 then .inl ((a : Int), 150, []) else if a = s.size then .inl (0, 0, acc ++ [(K, (S, A))]) else .inr (((b + skipL ((bs s).drop b) : Nat) : Int), acc ++ [(K, (S, A))])) := by
  simp only [bautaref09_Words_j27, bautaref09_Words_j27_T, run_br, run_call, run_ret, beq_iff_eq, ltI_iff]
  by_cases h4 : acc.length = 4000
  · rw [if_pos (by omega), if_pos h4]
  · rw [if_neg (by omega), if_neg h4, if_pos (by omega)]
    by_cases h : a = s.size
    · rw [if_pos (by omega), if_pos h]
    · rw [if_neg (by omega), if_neg h, skip_is N s (by omega) (by omega) (by omega)]; rfl

theorem ref_loop (N : Nat) (s : ByteArray) (hs : s.size ≤ 20000) (hN : 20020 < N) : ∀ (f a : Nat) (acc : List Tok) (m : Nat), s.size - a < f → a ≤ s.size → acc.length ≤ 4000 → f ≤ m →
    loopN (fun v => bautaref09_Words_l5_T N s v.1 v.2) m ((a : Int), acc) = some (.inl (toks s f a acc))
  | 0, a, acc, m, h, _, _, _ => by omega
  | f + 1, a, acc, m, hf, ha, hacc, hm => by
    have hl := bs_size s
    have w1 : IntKind.i64.wrap ((a : Int) + 1) = ((a + 1 : Nat) : Int) := i64_succ (by omega)
    have c0 : (a : Int) ≤ (s.size : Int) := by omega
    rw [toks]
    rcases Nat.lt_or_ge a s.size with h | h
    · have hne : (bs s).drop a ≠ [] := by
        intro e
        have := congrArg List.length e
        rw [List.length_drop] at this
        rw [← bs_size, List.length_nil] at this
        omega
      have hd : ((bs s).drop a).length = s.size - a := by rw [List.length_drop]; omega
      rw [if_pos h]
      have c1 : (0 : Int) ≤ (a : Int) ∧ (a : Int) < (s.size : Int) := by omega
      -- what the step does with the token
      have red : (bautaref09_Words_l5_T N s (a : Int) acc).run some = ((some (j10R a (nxt ((bs s).drop a)))).bind fun y => (Tree.alt y (fun _ => Tree.ret (.inr (.inl ((a : Int), 100, [])))) (fun y10 =>
          .br (leI 0 (a : Int) && (leI (a : Int) y10.1 && leI y10.1 (s.size : Int))) (
          .call (bautaref09_Words_j27 N s (a : Int) y10.1 acc y10.2 (s.extract a y10.1.toNat) (a : Int)) fun y12 => (
          .alt y12 (fun y13 => (.ret (.inr (.inl (y13.1, y13.2.1, y13.2.2))))) (fun y14 => (.ret (.inl (y14.1, y14.2)))))) .fail)).run some : Option ((Int × List Tok) ⊕ ((Int × Int × List Tok) ⊕ List Tok))) := by
        simp only [bautaref09_Words_l5_T, run_br, run_call, leI_iff, ltI_iff, inRange_iff, toNat_nat, bAt_is, rletter_is, rnum_is, Option.bind_some, if_pos c0, if_pos c1, if_pos c1.2, w1]
        by_cases hc : isLet ((bs s).getD a 0) = true
        · rw [if_pos hc, j10_t N s hs (by omega) a h (by rw [hc]; rfl)]; rfl
        · rw [if_neg hc]
          cases hdg : isDig ((bs s).getD a 0) with
          | true => rw [j10_t N s hs (by omega) a h (by rw [hdg]; simp)]; rfl
          | false => rw [j10_f N s hs (by omega) a h (by rw [hdg, Bool.eq_false_iff.2 hc]; rfl)]; rfl
      cases hn : nxt ((bs s).drop a) with
      | none =>
        rw [hn] at red
        exact loop_stop (by omega) red
      | some kn =>
        obtain ⟨k, n⟩ := kn
        rw [hn] at red
        obtain ⟨q1, q2, q3⟩ := nxt_len hne hn
        rw [hd] at q2
        have c3 : (0 : Int) ≤ (a : Int) ∧ (a : Int) ≤ ((a + n : Nat) : Int) ∧ ((a + n : Nat) : Int) ≤ (s.size : Int) := by omega
        have hsk : skipL ((bs s).drop (a + n)) ≤ ((bs s).drop (a + n)).length := skip_le false ((bs s).drop (a + n))
        rw [List.length_drop, ← bs_size] at hsk
        simp only [j10R, Option.bind_some, run_inr, run_br, run_call, run_ret, leI_iff, Bool.and_eq_true, if_pos c3, toNat_nat, j27_is N s hs hN a (a + n) (.inl (by omega)) acc hacc, if_neg (by omega : ¬ a = s.size)] at red
        show _ = some (Sum.inl (if acc.length = 4000 then _ else _))
        by_cases h4 : acc.length = 4000
        · rw [if_pos h4] at red ⊢
          exact loop_stop (by omega) red
        · rw [if_neg h4] at red ⊢
          exact loop_step (by omega) red (ref_loop N s hs hN f (a + n + skipL ((bs s).drop (a + n))) (acc ++ [((k : Int), (s.extract a (a + n), (a : Int)))]) (m - 1) (by omega) (by omega) (by simp; omega) (by omega))
    · obtain rfl : a = s.size := by omega
      rw [if_neg (by omega)]
      refine loop_stop (by omega) ?_
      simp only [bautaref09_Words_l5_T, run_br, run_call, run_ret, leI_iff, ltI_iff, if_pos c0, w1, j27_is N s hs hN s.size (s.size + 1) (.inr rfl) acc hacc, if_neg (Int.lt_irrefl _), Option.bind_some, if_true]
      split <;> rfl

theorem words_ref (N : Nat) (s : ByteArray) (hN : 20030 < N) : bautaref09_Words N s = some (wds s) := by
  unfold wds
  simp only [bautaref09_Words, bautaref09_Words_T, run_br, run_call, run_ret, ltI_iff]
  by_cases h : 20000 < s.size
  · rw [if_pos (by omega), if_pos h]
  · rw [if_neg (by omega), if_neg h]
    have hsk : skipL (bs s) ≤ (bs s).length := skip_le false (bs s)
    rw [← bs_size] at hsk
    have h0 := skip_is N s (by omega) (by omega) (a := 0) (by omega)
    rw [List.drop_zero, Nat.zero_add] at h0
    rw [show (0 : Int) = ((0 : Nat) : Int) from rfl, h0, Option.bind_some]
    rw [bautaref09_Words_l5, ref_loop N s (by omega) (by omega) (s.size + 1) (skipL (bs s)) [] N (by omega) hsk (by simp) (by omega)]
    rfl

theorem toks_len (s : ByteArray) : ∀ (f a : Nat) (acc : List Tok), acc.length ≤ 4000 → (toks s f a acc).2.2.length ≤ 4001
  | 0, a, acc, h => by rw [toks]; simp; omega
  | f + 1, a, acc, h => by
    rw [toks]
    split
    · split
      · simp
      · split
        · simp
        · exact toks_len s f _ _ (by simp; omega)
    · split
      · simp
      · simp; omega
theorem wds_len (s : ByteArray) : (wds s).2.2.length ≤ 4001 := by
  unfold wds
  split
  · simp
  · exact toks_len s _ _ _ (by simp)
end Go.Proofs.YtfbnofpfinenkaaDoorV
