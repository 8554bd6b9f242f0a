/- The maker of circuits in which no two gates are alike, as plain functions: that the program's functions are these. -/
import Derived.Test.YtnlkfkkgcaiklaaPSem0
namespace Go.Proofs.YtnlkfkkgcaiklaaV
set_option linter.unusedVariables false
set_option linter.unusedSimpArgs false

/-! ### Maps whose keys are gates -/
abbrev KG : Ty := .prod (.int .i64) (.prod (.int .i64) (.prod (.int .i64) (.prod (.int .u32) .bool)))

theorem eqG (a b : Gate) : eqE KG a b = decide (a = b) := by
  obtain ⟨a1, a2, a3, a4, a5⟩ := a
  obtain ⟨b1, b2, b3, b4, b5⟩ := b
  rw [Bool.eq_iff_iff]
  simp [eqE]

theorem getE_set {β : Type} (key key' : Gate) (d x : β) : ∀ M : List (Gate × β), getE (eqE KG) key d (setE (eqE KG) key' x M) = if key = key' then x else getE (eqE KG) key d M
  | [] => by
    simp only [setE, getE, eqG]
    by_cases h : key = key' <;> simp [h]
  | p :: r => by
    have ih := getE_set key key' d x r
    simp only [setE, eqG]
    by_cases h1 : key' = p.1
    · subst h1
      simp only [decide_true, cond_true, getE, eqG]
      by_cases h : key = p.1 <;> simp [h]
    · simp only [h1, decide_false, cond_false, getE, eqG, ih]
      by_cases h : key = p.1
      · have : key ≠ key' := fun e => h1 (by rw [← e]; exact h)
        simp [h, this]
        intro e
        exact absurd e.symm h1
      · simp [h]

/-! ### Keys -/
def keyG (k a b n : Int) : Gate := if (k = 3 ∨ k = 4) ∧ b < a then (k, b, a, n, false) else (k, a, b, n, false)
def kg (g : Gate) : Gate := keyG g.1 g.2.1 g.2.2.1 g.2.2.2.1

theorem key_is (N : Nat) (k a b n : Int) : fold_key N k a b = some ((keyG k a b n).2.1, (keyG k a b n).2.2.1) := by
  have hj : ∀ t, fold_key_j2 N t a b = some (if t = true then (b, a) else (a, b)) := by
    intro t
    simp only [fold_key_j2, fold_key_j2_T, run_br, run_ret]
    cases t <;> rfl
  simp only [fold_key, fold_key_T, run_br, run_call, run_ret, hj, Option.bind_some, ltI_iff, beq_iffI, keyG]
  by_cases h3 : k = 3
  · by_cases hl : b < a <;> simp [h3, hl]
  · by_cases h4 : k = 4
    · by_cases hl : b < a <;> simp [h4, hl]
    · simp [h3, h4]

theorem keyG_1 (k a b n : Int) : (keyG k a b n).1 = k ∧ (keyG k a b n).2.2.2 = (n, false) := by unfold keyG; split <;> exact ⟨rfl, rfl⟩

/-- The place of the first gate with this key. -/
def fnd (key : Gate) : List Gate → Option Nat
  | [] => none
  | g :: l => if key = kg g then some 0 else (fnd key l).map (· + 1)

def mkO : Nat → List Gate → List (Gate × Int)
  | _, [] => []
  | o, g :: l => (kg g, (o : Int)) :: mkO (o + 1) l
/-- Where gates are. -/
def mk (gs : List Gate) : List (Gate × Int) := mkO 0 gs

theorem mkO_get (key : Gate) : ∀ (gs : List Gate) (o : Nat), hasE (eqE KG) key (mkO o gs) = (fnd key gs).isSome ∧ getE (eqE KG) key 0 (mkO o gs) = (match fnd key gs with | some i => ((o + i : Nat) : Int) | none => 0) ∧
    (fnd key gs = none → setE (eqE KG) key ((o + gs.length : Nat) : Int) (mkO o gs) = mkO o gs ++ [(key, ((o + gs.length : Nat) : Int))])
  | [], o => ⟨rfl, rfl, fun _ => rfl⟩
  | g :: l, o => by
    obtain ⟨h1, h2, h3⟩ := mkO_get key l (o + 1)
    simp only [mkO, hasE, getE, setE, fnd, eqG, h1, h2]
    by_cases h : key = kg g
    · simp [h]
    · simp only [h, decide_false, Bool.false_or, if_false, cond_false]
      cases hf : fnd key l with
      | none =>
        refine ⟨rfl, rfl, fun _ => ?_⟩
        have := h3 hf
        simp only [List.length_cons, show o + (l.length + 1) = o + 1 + l.length by omega]
        rw [this]; rfl
      | some i => exact ⟨rfl, by simp only [Option.map_some]; rw [show o + (i + 1) = o + 1 + i by omega], fun hh => by cases hh⟩

theorem mkO_snoc (g : Gate) : ∀ (gs : List Gate) (o : Nat), mkO o (gs ++ [g]) = mkO o gs ++ [(kg g, ((o + gs.length : Nat) : Int))]
  | [], o => rfl
  | x :: l, o => by
    have := mkO_snoc g l (o + 1)
    simp only [List.cons_append, mkO, this, List.length_cons, show o + (l.length + 1) = o + 1 + l.length by omega]

theorem mk_has (key : Gate) (gs : List Gate) : hasE (eqE KG) key (mk gs) = (fnd key gs).isSome := (mkO_get key gs 0).1
theorem mk_get (key : Gate) (gs : List Gate) : getE (eqE KG) key 0 (mk gs) = (match fnd key gs with | some i => (i : Int) | none => 0) := by
  have := (mkO_get key gs 0).2.1
  simp only [Nat.zero_add] at this
  exact this
theorem mk_set (g : Gate) (gs : List Gate) (h : fnd (kg g) gs = none) : setE (eqE KG) (kg g) (gs.length : Int) (mk gs) = mk (gs ++ [g]) := by
  have := (mkO_get (kg g) gs 0).2.2 h
  simp only [Nat.zero_add] at this
  rw [mk, this, mk, mkO_snoc]
  simp

/-! ### Adding -/
def addG (gs : List Gate) (k a b n : Int) : Int × List Gate := match fnd (keyG k a b n) gs with
  | some i => ((i : Int), gs)
  | none => ((gs.length : Int), gs ++ [(k, (a, (b, (n, secOf gs k a b))))])

theorem one_is (N : Nat) (k : Int) : fold_one N k = some (decide (5 ≤ k ∧ k ≤ 8)) := by
  simp only [fold_one, fold_one_T, run_br, run_ret, leI_eq, decide_eq_true_eq]
  by_cases h : 5 ≤ k <;> simp [h]
theorem both_is (N : Nat) (k : Int) : fold_both N k = some (decide (k = 3 ∨ k = 4 ∨ (9 ≤ k ∧ k ≤ 11))) := by
  simp only [fold_both, fold_both_T, run_br, run_ret, beq_iffI]
  by_cases h3 : k = 3
  · simp [h3]
  by_cases h4 : k = 4
  · simp [h4]
  by_cases h9 : k = 9
  · simp [h9]
  by_cases h10 : k = 10
  · simp [h10]
  simp only [h3, h4, h9, h10, if_false]
  congr 1
  rw [Bool.eq_iff_iff]
  simp only [beq_iff_eq, decide_eq_true_eq]
  have : k = 3 ∨ k = 4 ∨ (9 ≤ k ∧ k ≤ 11) ↔ k = 11 := by omega
  grind
theorem input_is (N : Nat) (k : Int) : fold_input N k = some (decide (k = 1 ∨ k = 2)) := by
  simp only [fold_input, fold_input_T, run_br, run_ret, beq_iffI]
  by_cases h1 : k = 1
  · simp [h1]
  · simp only [h1, if_false, false_or]
    congr 1

theorem takes_one (k : Int) : (5 ≤ k ∧ k ≤ 8) ↔ takes k = 1 := by unfold takes; grind
theorem takes_both (k : Int) : (k = 3 ∨ k = 4 ∨ (9 ≤ k ∧ k ≤ 11)) ↔ takes k = 2 := by unfold takes; grind

theorem add_j6 (N : Nat) (gs : List Gate) (k a b n : Int) (c : Bool) (hl : gs.length ≤ 100000) :
    fold_maker_add_j6 N (mk gs) k a b n c gs = some (match fnd (keyG k a b n) gs with
      | some i => ((i : Int), mk gs, gs)
      | none => ((gs.length : Int), mk (gs ++ [(k, a, b, n, c)]), gs ++ [(k, a, b, n, c)])) := by
  have hk := keyG_1 k a b n
  have e0 : (k, (keyG k a b n).2.1, (keyG k a b n).2.2.1, n, false) = keyG k a b n := by
    refine Prod.ext hk.1.symm (Prod.ext rfl (Prod.ext rfl hk.2.symm))
  simp only [fold_maker_add_j6, fold_maker_add_j6_T, run_call, key_is N k a b n, Option.bind_some, run_br, run_ret, ltI_eq, decide_eq_true_eq, e0]
  rw [mk_has, mk_get]
  cases hf : fnd (keyG k a b n) gs with
  | some i => simp
  | none =>
    simp only [Option.isSome_none, Bool.false_eq_true, if_false]
    rw [if_pos (by omega)]
    have e1 : IntKind.i64.wrap (((gs ++ [(k, a, b, n, c)]).length : Int) - 1) = (gs.length : Int) := by
      rw [i64_in (by simp; omega)]; simp
    have := mk_set (k, a, b, n, c) gs hf
    rw [e1]
    rw [show kg (k, a, b, n, c) = keyG k a b n from rfl] at this
    rw [this]

theorem add_is (N : Nat) (gs : List Gate) (k a b n : Int) (hl : gs.length ≤ 100000) (ha : 1 ≤ takes k → In gs a) (hb : 2 ≤ takes k → In gs b) :
    fold_maker_add N k a b n (mk gs) gs = some ((addG gs k a b n).1, mk (addG gs k a b n).2, (addG gs k a b n).2) := by
  have j3 : ∀ t, (t = true → In gs a) → fold_maker_add_j3 N t a (k == 1) gs = some (if t = true then sec gs a else (k == 1)) := by
    intro t ht
    simp only [fold_maker_add_j3, fold_maker_add_j3_T, run_br, run_ret, inRange_iff]
    cases t with
    | true => simp only [if_true, (ht rfl).r]; rfl
    | false => rfl
  have j4 : ∀ c, fold_maker_add_j4 N (mk gs) k a b n c gs = some (match fnd (keyG k a b n) gs with
      | some i => ((i : Int), mk gs, gs)
      | none => ((gs.length : Int), mk (gs ++ [(k, a, b, n, if takes k = 2 then c || sec gs b else c)]), gs ++ [(k, a, b, n, if takes k = 2 then c || sec gs b else c)])) := by
    intro c
    simp only [fold_maker_add_j4, fold_maker_add_j4_T, run_br, run_call, run_ret, both_is, takes_both, Option.bind_some, decide_eq_true_eq, add_j6 N gs k a b n _ hl, inRange_iff]
    by_cases h2 : takes k = 2
    · have hib := hb (by omega)
      cases c with
      | true => simp [h2]
      | false =>
        simp only [h2, if_true, Bool.false_eq_true, if_false, Bool.false_or, hib.r]
        rfl
    · simp [h2]
  have fin : ∀ c, c = secOf gs k a b → (match fnd (keyG k a b n) gs with
      | some i => ((i : Int), mk gs, gs)
      | none => ((gs.length : Int), mk (gs ++ [(k, a, b, n, c)]), gs ++ [(k, a, b, n, c)])) = ((addG gs k a b n).1, mk (addG gs k a b n).2, (addG gs k a b n).2) := by
    intro c hc
    subst hc
    unfold addG
    cases fnd (keyG k a b n) gs <;> rfl
  simp only [fold_maker_add, fold_maker_add_T, run_br, run_call, run_ret, one_is, both_is, takes_one, takes_both, Option.bind_some, decide_eq_true_eq]
  rcases takes_cases k with ht | ht | ht
  · rw [if_neg (by omega), j3 _ (by simp [ht]), Option.bind_some, j4, Option.bind_some]
    simp only [ht, decide_false, Bool.false_eq_true, if_false, show ¬ ((0 : Int) = 2) by decide]
    rw [← fin (k == 1) (by simp only [secOf, ht]; rw [Bool.eq_iff_iff]; simp)]
  · rw [if_pos ht, j3 _ (fun _ => ha (by omega)), Option.bind_some, j4, Option.bind_some]
    have hk1 : k ≠ 1 := by intro h; subst h; simp [takes] at ht
    simp only [ht, if_true, show ¬ ((1 : Int) = 2) by decide, if_false]
    rw [← fin (sec gs a) (by simp [secOf, ht, hk1])]
  · rw [if_neg (by omega), j3 _ (fun _ => ha (by omega)), Option.bind_some, j4, Option.bind_some]
    have hk1 : k ≠ 1 := by intro h; subst h; simp [takes] at ht
    simp only [ht, decide_true, if_true]
    rw [← fin (sec gs a || sec gs b) (by simp [secOf, ht, hk1])]

theorem constant_is (N : Nat) (gs : List Gate) (n : Int) (hl : gs.length ≤ 100000) : fold_maker_constant N n (mk gs) gs = some ((addG gs 0 0 0 n).1, mk (addG gs 0 0 0 n).2, (addG gs 0 0 0 n).2) := by
  simp only [fold_maker_constant, fold_maker_constant_T, run_call, run_ret, add_is N gs 0 0 0 n hl (by simp [takes]) (by simp [takes]), Option.bind_some]

/-! ### Making -/
def gat (gs : List Gate) (x : Int) : Gate := gs.getD x.toNat g0
/-- A gate is a constant; its word. -/
def cst (gs : List Gate) (x : Int) : Bool := decide ((gat gs x).1 = 0)
def num (gs : List Gate) (x : Int) : Int := (gat gs x).2.2.2.1

theorem number_is (N : Nat) (gs : List Gate) (x : Int) (h : In gs x) : fold_maker_number N x gs = some (num gs x, cst gs x) := by
  have hr : (0 ≤ x ∧ x < (gs.length : Int)) = True := by simp; exact h
  simp only [fold_maker_number, fold_maker_number_T, run_br, run_ret, inRange_iff, hr, if_true]
  rfl

def notG (gs : List Gate) (a : Int) : Int × List Gate :=
  if cst gs a = true then addG gs 0 0 0 (IntKind.u32.wrap ((BitVec.ofInt 32 4294967295 ^^^ BitVec.ofInt 32 (num gs a)).toNat : Int)) else if (gat gs a).1 = 5 then ((gat gs a).2.1, gs) else addG gs 5 a 0 0

theorem not_is (N : Nat) (gs : List Gate) (a : Int) (hl : gs.length ≤ 100000) (h : In gs a) : fold_maker_not N a (mk gs) gs = some ((notG gs a).1, mk (notG gs a).2, (notG gs a).2) := by
  have hr : (0 ≤ a ∧ a < (gs.length : Int)) = True := by simp; exact h
  simp only [fold_maker_not, fold_maker_not_T, run_br, run_call, run_ret, number_is N gs a h, Option.bind_some, inRange_iff, hr, if_true, constant_is N gs _ hl, notG, beq_iffI]
  by_cases hc : cst gs a = true
  · simp only [hc, if_true]
  · simp only [hc, if_false, Bool.false_eq_true]
    rw [show (gs.getD a.toNat (0, (0, (0, (0, false))))) = gat gs a from rfl]
    by_cases h5 : (gat gs a).1 = 5
    · simp only [h5, if_true]
    · simp only [h5, if_false]
      rw [add_is N gs 5 a 0 0 hl (fun _ => h) (by simp [takes])]
      rfl

def andG (gs : List Gate) (a b : Int) : Int × List Gate :=
  if cst gs a = true ∧ cst gs b = true then addG gs 0 0 0 (IntKind.u32.wrap ((BitVec.ofInt 32 (num gs a) &&& BitVec.ofInt 32 (num gs b)).toNat : Int))
  else if (cst gs a = true ∧ num gs a = 4294967295) ∨ a = b then (b, gs)
  else if cst gs b = true ∧ num gs b = 4294967295 then (a, gs)
  else if (cst gs a = true ∧ num gs a = 0) ∨ (cst gs b = true ∧ num gs b = 0) then addG gs 0 0 0 0
  else addG gs 3 a b 0

theorem and_is (N : Nat) (gs : List Gate) (a b : Int) (hl : gs.length ≤ 100000) (ha : In gs a) (hb : In gs b) : fold_maker_and N a b (mk gs) gs = some ((andG gs a b).1, mk (andG gs a b).2, (andG gs a b).2) := by
  have hadd := add_is N gs 3 a b 0 hl (fun _ => ha) (fun _ => hb)
  simp only [fold_maker_and, fold_maker_and_T, fold_maker_and_j4, fold_maker_and_j4_T, fold_maker_and_j7, fold_maker_and_j7_T, fold_maker_and_j9, fold_maker_and_j9_T, run_br, run_call, number_is N gs a ha, number_is N gs b hb, Option.bind_some, constant_is N gs _ hl, beq_iffI, hadd]
  unfold andG
  cases hca : cst gs a <;> cases hcb : cst gs b <;> simp only [Bool.false_eq_true, if_false, if_true, false_and, and_false, true_and, and_true, or_false, false_or, run_br, run_call, run_ret, run_inl, run_inr, Option.bind_some, beq_iffI, and_self]
  · by_cases h1 : a = b
    · simp [h1]
    · simp [h1]
  · by_cases h1 : a = b
    · simp [h1]
    · by_cases h2 : num gs b = 4294967295
      · simp [h1, h2]
      · by_cases h3 : num gs b = 0
        · simp [h1, h3]
        · simp [h1, h2, h3]
  · by_cases h0 : num gs a = 4294967295
    · simp [h0]
    · by_cases h1 : a = b
      · subst h1; rw [hca] at hcb; cases hcb
      · by_cases h3 : num gs a = 0
        · simp [h1, h3]
        · simp [h0, h1, h3]

def xorG (gs : List Gate) (a b : Int) : Int × List Gate :=
  if cst gs a = true ∧ cst gs b = true then addG gs 0 0 0 (IntKind.u32.wrap ((BitVec.ofInt 32 (num gs a) ^^^ BitVec.ofInt 32 (num gs b)).toNat : Int))
  else if a = b then addG gs 0 0 0 0
  else if cst gs a = true ∧ num gs a = 0 then (b, gs)
  else if cst gs b = true ∧ num gs b = 0 then (a, gs)
  else if cst gs a = true ∧ num gs a = 4294967295 then notG gs b
  else if cst gs b = true ∧ num gs b = 4294967295 then notG gs a
  else addG gs 4 a b 0

theorem xor_is (N : Nat) (gs : List Gate) (a b : Int) (hl : gs.length ≤ 100000) (ha : In gs a) (hb : In gs b) : fold_maker_xor N a b (mk gs) gs = some ((xorG gs a b).1, mk (xorG gs a b).2, (xorG gs a b).2) := by
  have hadd := add_is N gs 4 a b 0 hl (fun _ => ha) (fun _ => hb)
  simp only [fold_maker_xor, fold_maker_xor_T, fold_maker_xor_j4, fold_maker_xor_j4_T, fold_maker_xor_j8, fold_maker_xor_j8_T, fold_maker_xor_j10, fold_maker_xor_j10_T, fold_maker_xor_j12, fold_maker_xor_j12_T, run_br, run_call, number_is N gs a ha, number_is N gs b hb, Option.bind_some, constant_is N gs _ hl, beq_iffI, hadd,
    not_is N gs a hl ha, not_is N gs b hl hb]
  unfold xorG
  cases hca : cst gs a <;> cases hcb : cst gs b <;> simp only [Bool.false_eq_true, if_false, if_true, false_and, and_false, true_and, and_true, or_false, false_or, run_br, run_call, run_ret, run_inl, run_inr, Option.bind_some, beq_iffI, and_self]
  · by_cases h1 : a = b
    · simp [h1]
    · simp [h1]
  · by_cases h1 : a = b
    · simp [h1]
    · by_cases h2 : num gs b = 0
      · simp [h1, h2]
      · by_cases h3 : num gs b = 4294967295
        · simp [h1, h3]
        · simp [h1, h2, h3]
  · by_cases h1 : a = b
    · simp [h1]
    · by_cases h2 : num gs a = 0
      · simp [h1, h2]
      · by_cases h3 : num gs a = 4294967295
        · simp [h1, h3]
        · simp [h1, h2, h3]

/-- A word turned or shifted. -/
def shW (k : Int) (x : BitVec 32) (n : Int) : BitVec 32 := if k = 6 then x <<< n.toNat else if k = 7 then x >>> n.toNat else rotW x n.toNat

def shiftG (gs : List Gate) (k n a : Int) : Int × List Gate :=
  if n = 0 then (a, gs) else if cst gs a = false then addG gs k a 0 n else addG gs 0 0 0 ((shW k (BitVec.ofInt 32 (num gs a)) n).toNat : Int)

theorem shift_is' (N : Nat) (gs : List Gate) (k n a : Int) (hk : 6 ≤ k ∧ k ≤ 8) (hn : 0 ≤ n ∧ n ≤ 31) (hw : Wds gs) (hl : gs.length ≤ 100000) (h : In gs a) :
    fold_maker_shift N k n a (mk gs) gs = some ((shiftG gs k n a).1, mk (shiftG gs k n a).2, (shiftG gs k n a).2) := by
  have hwa : 0 ≤ num gs a ∧ num gs a ≤ 4294967295 := hw a.toNat (by unfold In at h; omega)
  have e0 : num gs a = ((BitVec.ofInt 32 (num gs a)).toNat : Int) := (nat_bw hwa).symm
  have ht : takes k = 1 := by unfold takes; grind
  simp only [fold_maker_shift, fold_maker_shift_T, run_br, run_call, run_ret, number_is N gs a h, Option.bind_some, beq_iffI, not_iffB, shiftG]
  by_cases hn0 : n = 0
  · simp [hn0]
  · simp only [hn0, if_false]
    cases hc : cst gs a with
    | false =>
      simp only [Bool.false_eq_true, not_false_eq_true, if_true]
      rw [add_is N gs k a 0 n hl (fun _ => h) (by omega)]
      rfl
    | true =>
      simp only [not_true_eq_false, if_false, Bool.true_eq_false]
      rcases (by omega : k = 6 ∨ k = 7 ∨ k = 8) with rfl | rfl | rfl
      · have e1 : IntKind.i64.wrap (6 - 6) = 0 := rfl
        obtain ⟨c, hs⟩ := wshl_is N (BitVec.ofInt 32 (num gs a)) n hn
        rw [e1, if_neg (by decide), e0, hs, Option.bind_some, constant_is N gs _ hl, Option.bind_some]
        simp only [shW, if_true, ofInt_nat]
      · have e1 : IntKind.i64.wrap (7 - 6) = 1 := rfl
        obtain ⟨c, hs⟩ := wshr_is N (BitVec.ofInt 32 (num gs a)) n hn
        rw [e1, if_neg (by decide), e0, hs, Option.bind_some, constant_is N gs _ hl, Option.bind_some]
        simp only [shW, if_true, ofInt_nat, show ¬ ((7 : Int) = 6) by decide, if_false]
      · rw [if_pos rfl, e0, wrot_is N _ n (by omega), Option.bind_some, constant_is N gs _ hl, Option.bind_some]
        simp only [shW, ofInt_nat, show ¬ ((8 : Int) = 6) by decide, show ¬ ((8 : Int) = 7) by decide, if_false]

def gateG (gs : List Gate) (now : List Int) (g : Gate) : Int × List Gate :=
  if g.1 = 3 then andG gs (now.getD g.2.1.toNat 0) (now.getD g.2.2.1.toNat 0) else if g.1 = 4 then xorG gs (now.getD g.2.1.toNat 0) (now.getD g.2.2.1.toNat 0) else if g.1 = 5 then notG gs (now.getD g.2.1.toNat 0)
  else if 6 ≤ g.1 then shiftG gs g.1 g.2.2.2.1 (now.getD g.2.1.toNat 0) else addG gs g.1 g.2.1 g.2.2.1 g.2.2.2.1

theorem gate_is (N : Nat) (gs : List Gate) (now : List Int) (g : Gate) (hk : 0 ≤ g.1 ∧ g.1 ≤ 8) (hn : 6 ≤ g.1 → 0 ≤ g.2.2.2.1 ∧ g.2.2.2.1 ≤ 31) (hw : Wds gs) (hl : gs.length ≤ 100000) (ha : 1 ≤ takes g.1 → 0 ≤ g.2.1 ∧ g.2.1 < now.length) (hb : 2 ≤ takes g.1 → 0 ≤ g.2.2.1 ∧ g.2.2.1 < now.length)
    (hnow : ∀ i, i < now.length → In gs (now.getD i 0)) :
    fold_maker_gate N g.1 g.2.1 g.2.2.1 g.2.2.2.1 now (mk gs) gs = some ((gateG gs now g).1, mk (gateG gs now g).2, (gateG gs now g).2) := by
  obtain ⟨k, a, b, n, c⟩ := g
  simp only at hk hn ha hb ⊢
  have j11 : 6 ≤ k → ∀ t, t = true → fold_maker_gate_j11 N now t (mk gs) k a n gs = some (.inl ((shiftG gs k n (now.getD a.toNat 0)).1, mk (shiftG gs k n (now.getD a.toNat 0)).2, (shiftG gs k n (now.getD a.toNat 0)).2)) := by
    intro h6 t ht
    have h1 := ha (by unfold takes; grind)
    simp only [fold_maker_gate_j11, fold_maker_gate_j11_T, run_br, run_call, run_ret, ht, if_true, inRange_iff]
    rw [if_pos h1, shift_is' N gs k n _ (by omega) (hn h6) hw hl (hnow _ (by omega)), Option.bind_some]
  have j11' : fold_maker_gate_j11 N now false (mk gs) k a n gs = some (.inr ()) := rfl
  simp only [fold_maker_gate, fold_maker_gate_T, run_br, run_call, run_ret, beq_iffI, inRange_iff, gateG]
  by_cases h3 : k = 3
  · have h1 := ha (by subst h3; decide)
    have h2 := hb (by subst h3; decide)
    simp only [h3, if_true]
    rw [if_pos h1, if_pos h2, and_is N gs _ _ hl (hnow _ (by omega)) (hnow _ (by omega))]
    rfl
  by_cases h4 : k = 4
  · have h1 := ha (by subst h4; decide)
    have h2 := hb (by subst h4; decide)
    simp only [h4, if_true, show ¬ ((4 : Int) = 3) by decide, if_false]
    rw [if_pos h1, if_pos h2, xor_is N gs _ _ hl (hnow _ (by omega)) (hnow _ (by omega))]
    rfl
  by_cases h5 : k = 5
  · have h1 := ha (by subst h5; decide)
    simp only [h5, if_true, show ¬ ((5 : Int) = 3) by decide, show ¬ ((5 : Int) = 4) by decide, if_false]
    rw [if_pos h1, not_is N gs _ hl (hnow _ (by omega))]
    rfl
  simp only [h3, h4, h5, if_false]
  by_cases h6 : 6 ≤ k
  · simp only [h6, if_true]
    rcases (by omega : k = 6 ∨ k = 7 ∨ k = 8) with rfl | rfl | rfl
    · simp only [if_true]
      rw [j11 h6 ((6 : Int) == 6) (by decide)]
      rfl
    · simp only [if_true, show ¬ ((7 : Int) = 6) by decide, if_false]
      rw [j11 h6 ((7 : Int) == 7) (by decide)]
      rfl
    · simp only [show ¬ ((8 : Int) = 6) by decide, show ¬ ((8 : Int) = 7) by decide, if_false]
      rw [j11 h6 ((8 : Int) == 8) (by decide)]
      rfl
  · have hk6 : ¬ k = 6 := by omega
    have hk7 : ¬ k = 7 := by omega
    have hk8 : (k == 8) = false := by simp; omega
    have ht : takes k = 0 := by unfold takes; grind
    simp only [hk6, hk7, hk8, if_false, h6, j11', Option.bind_some, run_inr, run_call]
    rw [add_is N gs k a b n hl (by omega) (by omega)]
    rfl
end Go.Proofs.YtnlkfkkgcaiklaaV
