/- What circuits of a few kinds are made of any: both makers. -/
import Derived.Test.YtoahoagfkpfhnaaPCirc
namespace Go.Proofs.YtoahoagfkpfhnaaV
set_option linter.unusedVariables false
set_option linter.unusedSimpArgs false

/-- A gate is among these. -/
def In (gs : List Gate) (x : Int) : Prop := 0 ≤ x ∧ x < gs.length

/-- One gate more; and which it is. -/
def app (gs : List Gate) (k a b n : Int) : Int × List Gate := ((gs.length : Int), gs ++ [(k, (a, (b, (n, secOf gs k a b))))])

theorem app_len (gs : List Gate) (k a b n : Int) : (app gs k a b n).2.length = gs.length + 1 := by simp [app]
theorem app_new (gs : List Gate) (k a b n : Int) : In (app gs k a b n).2 (app gs k a b n).1 := by simp [app, In]; omega
theorem app_old {gs : List Gate} {x : Int} (h : In gs x) (k a b n : Int) : In (app gs k a b n).2 x := by simp [app, In] at h ⊢; omega

theorem In.r {gs : List Gate} {x : Int} (h : In gs x) : (0 ≤ x ∧ x < (gs.length : Int)) = True := by simp; exact h

theorem ref_add (N : Nat) (gs : List Gate) (k a b n : Int) (hl : gs.length < 4000000000) (h1 : 1 ≤ takes k → In gs a) (h2 : 2 ≤ takes k → In gs b) : bautaref16_M_add N k a b n gs = some (app gs k a b n) := by
  have hj : ∀ s, bautaref16_M_add_j4 N gs k a b n s = some ((gs.length : Int), gs ++ [(k, (a, (b, (n, s))))]) := by
    intro s
    simp (disch := simp; omega) [bautaref16_M_add_j4, bautaref16_M_add_j4_T, i64_in]
    omega
  simp only [bautaref16_M_add, bautaref16_M_add_T, hj, run_call, run_br, run_ret, Option.bind_some, ref_takes, ltI_eq, decide_eq_true_eq, inRange_iff, app, secOf, sec]
  unfold In at h1 h2
  rcases takes_cases k with ht | ht | ht <;> simp only [ht] at h1 h2 ⊢ <;> simp <;> grind

theorem real_l3_end (N : Nat) (gs : List Gate) (ts : List Int) (a b : Int) (s : Bool) : (lower_maker_add_l3_T N ts ts.length gs ts.length a b s).run some = some (.inr (a, b, s)) := by
  simp [lower_maker_add_l3_T]

theorem real_l3 (N : Nat) (gs : List Gate) (ts : List Int) (i : Nat) (hi : i < ts.length) (hi' : i < 1000) (a b : Int) (s : Bool) (hx : In gs ts[i]) :
    (lower_maker_add_l3_T N ts ts.length gs i a b s).run some = some (.inl (((i + 1 : Nat) : Int), if i = 0 then ts[i] else a, if i = 0 then b else ts[i], s || sec gs ts[i])) := by
  unfold In at hx
  simp only [lower_maker_add_l3_T, run_br, run_call, run_ret, inRange_iff, ltI_eq, decide_eq_true_eq, toNat_nat, getD_nat _ _ _ hi, i64_in (x := (i : Int) + 1) (by omega), lower_maker_add_j6, lower_maker_add_j6_T, sec, beq_iffI]
  grind

theorem real_add_of (N : Nat) (gs : List Gate) (k n : Int) (ts : List Int) (a b : Int) (s : Bool) (hl : gs.length < 4000000000) (h : lower_maker_add_l3 N ts ts.length gs (0, 0, 0, (k == 1)) = some (a, b, s)) :
    lower_maker_add N k n ts gs = some ((gs.length : Int), gs ++ [(k, (a, (b, (n, s))))]) := by
  simp only [lower_maker_add, lower_maker_add_T, run_call, h, Option.bind_some, run_br, run_ret]
  simp (disch := simp; omega) [i64_in]
  omega

theorem real_add0 (N : Nat) (gs : List Gate) (k n : Int) (hN : 2 < N) (hl : gs.length < 4000000000) (ht : takes k = 0) : lower_maker_add N k n [] gs = some (app gs k 0 0 n) := by
  have h : lower_maker_add_l3 N [] ([] : List Int).length gs (0, 0, 0, (k == 1)) = some (0, 0, secOf gs k 0 0) := by
    unfold lower_maker_add_l3
    refine loop_stop (by omega) ?_
    refine (real_l3_end N gs [] 0 0 (k == 1)).trans ?_
    simp [secOf, ht]; grind
  exact real_add_of N gs k n [] _ _ _ hl h

theorem real_add1 (N : Nat) (gs : List Gate) (k a n : Int) (hN : 2 < N) (hl : gs.length < 4000000000) (ht : takes k = 1) (ha : In gs a) : lower_maker_add N k n [a] gs = some (app gs k a 0 n) := by
  have h : lower_maker_add_l3 N [a] ([a] : List Int).length gs (0, 0, 0, (k == 1)) = some (a, 0, secOf gs k a 0) := by
    unfold lower_maker_add_l3
    refine loop_step (by omega) (real_l3 N gs [a] 0 (by simp) (by omega) _ _ _ ha) (loop_stop (by omega) ?_)
    · refine (real_l3_end N gs [a] a 0 _).trans ?_
      simp [secOf, ht]; grind
  exact real_add_of N gs k n [a] _ _ _ hl h

theorem real_add2 (N : Nat) (gs : List Gate) (k a b n : Int) (hN : 2 < N) (hl : gs.length < 4000000000) (ht : takes k = 2) (ha : In gs a) (hb : In gs b) : lower_maker_add N k n [a, b] gs = some (app gs k a b n) := by
  have h : lower_maker_add_l3 N [a, b] ([a, b] : List Int).length gs (0, 0, 0, (k == 1)) = some (a, b, secOf gs k a b) := by
    unfold lower_maker_add_l3
    refine loop_step (by omega) (real_l3 N gs [a, b] 0 (by simp) (by omega) _ _ _ ha) (loop_step (by omega) (real_l3 N gs [a, b] 1 (by simp) (by omega) _ _ _ hb) (loop_stop (by omega) ?_))
    · refine (real_l3_end N gs [a, b] a b _).trans ?_
      simp [secOf, ht]; grind
  exact real_add_of N gs k n [a, b] _ _ _ hl h

/-! ### Sums -/
theorem tk3 : takes 3 = 2 := by decide
theorem tk4 : takes 4 = 2 := by decide
theorem tk5 : takes 5 = 1 := by decide
theorem tk6 : takes 6 = 1 := by decide

def sstep (k g q : Int) (gs : List Gate) : Int × Int × List Gate :=
  let x1 := app gs 6 g 0 k
  let y := app x1.2 3 q x1.1 0
  let h := app y.2 4 g y.1 0
  if k < 16 then
    let z := app h.2 6 q 0 k
    let r := app z.2 3 q z.1 0
    (h.1, r.1, r.2)
  else (h.1, q, h.2)

def sumL (g q : Int) (gs : List Gate) : Int × Int × List Gate :=
  let r1 := sstep 1 g q gs
  let r2 := sstep 2 r1.1 r1.2.1 r1.2.2
  let r3 := sstep 4 r2.1 r2.2.1 r2.2.2
  let r4 := sstep 8 r3.1 r3.2.1 r3.2.2
  sstep 16 r4.1 r4.2.1 r4.2.2

def sumS (a b : Int) (gs : List Gate) : Int × List Gate :=
  let p := app gs 4 a b 0
  let g := app p.2 3 a b 0
  let r := sumL g.1 p.1 g.2
  let x := app r.2.2 6 r.1 0 1
  app x.2 4 p.1 x.1 0

theorem sstep_in (k : Int) {g q : Int} {gs : List Gate} (hg : In gs g) (hq : In gs q) :
    In (sstep k g q gs).2.2 (sstep k g q gs).1 ∧ In (sstep k g q gs).2.2 (sstep k g q gs).2.1 ∧ (∀ z, In gs z → In (sstep k g q gs).2.2 z) ∧ (k < 16 → (sstep k g q gs).2.2.length = gs.length + 5) ∧ (¬ k < 16 → (sstep k g q gs).2.2.length = gs.length + 3) := by
  unfold sstep
  unfold In at hg hq
  by_cases hk : k < 16 <;> simp only [hk, app, In, if_true, if_false, List.length_append, List.length_cons, List.length_nil] <;> refine ⟨by omega, by omega, fun z hz => by omega, fun h => ?_, fun h => ?_⟩ <;> simp_all

/-- What five steps do: by what one does. -/
theorem sumL_ind {P : List Gate → Int → Int → Prop} (hstep : ∀ k gs g q, 0 ≤ k ∧ k ≤ 16 → P gs g q → P (sstep k g q gs).2.2 (sstep k g q gs).1 (sstep k g q gs).2.1) {gs : List Gate} {g q : Int} (h : P gs g q) : P (sumL g q gs).2.2 (sumL g q gs).1 (sumL g q gs).2.1 :=
  hstep 16 _ _ _ (by omega) (hstep 8 _ _ _ (by omega) (hstep 4 _ _ _ (by omega) (hstep 2 _ _ _ (by omega) (hstep 1 _ _ _ (by omega) h))))

theorem sumL_in {g q : Int} {gs : List Gate} (hg : In gs g) (hq : In gs q) :
    In (sumL g q gs).2.2 (sumL g q gs).1 ∧ In (sumL g q gs).2.2 (sumL g q gs).2.1 ∧ (∀ z, In gs z → In (sumL g q gs).2.2 z) ∧ (sumL g q gs).2.2.length = gs.length + 23 := by
  have h1 := sstep_in 1 hg hq
  have h2 := sstep_in 2 h1.1 h1.2.1
  have h3 := sstep_in 4 h2.1 h2.2.1
  have h4 := sstep_in 8 h3.1 h3.2.1
  have h5 := sstep_in 16 h4.1 h4.2.1
  refine ⟨h5.1, h5.2.1, fun z hz => h5.2.2.1 z (h4.2.2.1 z (h3.2.2.1 z (h2.2.2.1 z (h1.2.2.1 z hz)))), ?_⟩
  have e1 := h1.2.2.2.1 (by decide)
  have e2 := h2.2.2.2.1 (by decide)
  have e3 := h3.2.2.2.1 (by decide)
  have e4 := h4.2.2.2.1 (by decide)
  have e5 := h5.2.2.2.2 (by decide)
  rw [e4, e3, e2, e1] at e5
  exact e5

theorem sum_in {a b : Int} {gs : List Gate} (ha : In gs a) (hb : In gs b) : In (sumS a b gs).2 (sumS a b gs).1 ∧ (∀ z, In gs z → In (sumS a b gs).2 z) ∧ (sumS a b gs).2.length = gs.length + 27 := by
  have h := sumL_in (app_new (app gs 4 a b 0).2 3 a b 0) (app_old (app_new gs 4 a b 0) 3 a b 0)
  refine ⟨app_new _ _ _ _ _, fun z hz => app_old (app_old (h.2.2.1 z (app_old (app_old hz _ _ _ _) _ _ _ _)) _ _ _ _) _ _ _ _, ?_⟩
  have e := h.2.2.2
  simp only [app_len] at e
  simp only [sumS, app_len, e]

theorem real_sstep (N : Nat) (gs : List Gate) (g q k : Int) (hN : 2 < N) (hl : gs.length < 3000000000) (hk : 0 ≤ k ∧ k ≤ 16) (hg : In gs g) (hq : In gs q) :
    (lower_maker_sum_l4_T N g q k gs).run some = some (.inl ((sstep k g q gs).1, (sstep k g q gs).2.1, k * 2, (sstep k g q gs).2.2)) := by
  have l1 := app_len gs 6 g 0 k
  have i1 := app_new gs 6 g 0 k
  have l2 := app_len (app gs 6 g 0 k).2 3 q (app gs 6 g 0 k).1 0
  have i2 := app_new (app gs 6 g 0 k).2 3 q (app gs 6 g 0 k).1 0
  have g2 := app_old (app_old hg 6 g 0 k) 3 q (app gs 6 g 0 k).1 0
  have q2 := app_old (app_old hq 6 g 0 k) 3 q (app gs 6 g 0 k).1 0
  have q3 := app_old q2 4 g (app (app gs 6 g 0 k).2 3 q (app gs 6 g 0 k).1 0).1 0
  have l3 := app_len (app (app gs 6 g 0 k).2 3 q (app gs 6 g 0 k).1 0).2 4 g (app (app gs 6 g 0 k).2 3 q (app gs 6 g 0 k).1 0).1 0
  simp only [lower_maker_sum_l4_T, lower_maker_left, lower_maker_left_T, lower_maker_and, lower_maker_and_T, lower_maker_xor, lower_maker_xor_T, run_call, run_br, run_ret, leI_eq, ltI_eq, decide_eq_true_eq, Option.bind_some]
  rw [if_pos hk.2, real_add1 N gs 6 g k hN (by omega) tk6 hg]
  simp only [Option.bind_some]
  rw [real_add2 N _ 3 q _ 0 hN (by omega) tk3 (app_old hq _ _ _ _) i1]
  simp only [Option.bind_some]
  rw [real_add2 N _ 4 g _ 0 hN (by omega) tk4 g2 i2]
  simp only [Option.bind_some, u32_in (x := k * 2) (by omega)]
  by_cases h : k < 16
  · rw [if_pos h, real_add1 N _ 6 q k hN (by omega) tk6 q3]
    simp only [Option.bind_some]
    rw [real_add2 N _ 3 q _ 0 hN (by rw [app_len]; omega) tk3 (app_old q3 _ _ _ _) (app_new _ _ _ _ _)]
    simp only [Option.bind_some, sstep, if_pos h]
  · rw [if_neg h]
    simp only [sstep, if_neg h]

theorem ref_sstep (N : Nat) (gs : List Gate) (g q k : Int) (hl : gs.length < 3000000000) (hk : 0 ≤ k ∧ k ≤ 16) (hg : In gs g) (hq : In gs q) :
    (bautaref16_M_sum_l5_T N g q k gs).run some = some (.inl ((sstep k g q gs).1, (sstep k g q gs).2.1, k * 2, (sstep k g q gs).2.2)) := by
  have t2 : ∀ {k}, takes k = 1 → ¬ (2 ≤ takes k) := fun h => by omega
  have l1 := app_len gs 6 g 0 k
  have i1 := app_new gs 6 g 0 k
  have l2 := app_len (app gs 6 g 0 k).2 3 q (app gs 6 g 0 k).1 0
  have i2 := app_new (app gs 6 g 0 k).2 3 q (app gs 6 g 0 k).1 0
  have g2 := app_old (app_old hg 6 g 0 k) 3 q (app gs 6 g 0 k).1 0
  have q2 := app_old (app_old hq 6 g 0 k) 3 q (app gs 6 g 0 k).1 0
  have q3 := app_old q2 4 g (app (app gs 6 g 0 k).2 3 q (app gs 6 g 0 k).1 0).1 0
  have l3 := app_len (app (app gs 6 g 0 k).2 3 q (app gs 6 g 0 k).1 0).2 4 g (app (app gs 6 g 0 k).2 3 q (app gs 6 g 0 k).1 0).1 0
  simp only [bautaref16_M_sum_l5_T, run_call, run_br, run_ret, ltI_eq, decide_eq_true_eq, Option.bind_some]
  rw [if_pos (by omega), ref_add N gs 6 g 0 k (by omega) (fun _ => hg) (fun h => absurd h (t2 tk6))]
  simp only [Option.bind_some]
  rw [ref_add N _ 3 q _ 0 (by omega) (fun _ => app_old hq _ _ _ _) (fun _ => i1)]
  simp only [Option.bind_some]
  rw [ref_add N _ 4 g _ 0 (by omega) (fun _ => g2) (fun _ => i2)]
  simp only [Option.bind_some, u32_in (x := k * 2) (by omega)]
  by_cases h : k < 16
  · rw [if_pos h, ref_add N _ 6 q 0 k (by omega) (fun _ => q3) (fun h => absurd h (t2 tk6))]
    simp only [Option.bind_some]
    rw [ref_add N _ 3 q _ 0 (by rw [app_len]; omega) (fun _ => app_old q3 _ _ _ _) (fun _ => app_new _ _ _ _ _)]
    simp only [Option.bind_some, sstep, if_pos h]
  · rw [if_neg h]
    simp only [sstep, if_neg h]

theorem real_end (N : Nat) (gs : List Gate) (g q : Int) : (lower_maker_sum_l4_T N g q 32 gs).run some = some (.inr (g, gs)) := by simp [lower_maker_sum_l4_T]
theorem ref_end (N : Nat) (gs : List Gate) (g q : Int) : (bautaref16_M_sum_l5_T N g q 32 gs).run some = some (.inr (g, gs)) := by simp [bautaref16_M_sum_l5_T]

theorem real_sumL (N : Nat) (gs : List Gate) (g q : Int) (hN : 6 < N) (hl : gs.length < 2000000000) (hg : In gs g) (hq : In gs q) : lower_maker_sum_l4 N (g, q, 1, gs) = some ((sumL g q gs).1, (sumL g q gs).2.2) := by
  have h1 := sstep_in 1 hg hq
  have h2 := sstep_in 2 h1.1 h1.2.1
  have h3 := sstep_in 4 h2.1 h2.2.1
  have h4 := sstep_in 8 h3.1 h3.2.1
  have e1 := h1.2.2.2.1 (by decide)
  have e2 := h2.2.2.2.1 (by decide)
  have e3 := h3.2.2.2.1 (by decide)
  have e4 := h4.2.2.2.1 (by decide)
  have s1 := real_sstep N gs g q 1 (by omega) (by omega) (by omega) hg hq
  have s2 := real_sstep N _ _ _ 2 (by omega) (by omega) (by omega) h1.1 h1.2.1
  have s3 := real_sstep N _ _ _ 4 (by omega) (by omega) (by omega) h2.1 h2.2.1
  have s4 := real_sstep N _ _ _ 8 (by omega) (by omega) (by omega) h3.1 h3.2.1
  have s5 := real_sstep N _ _ _ 16 (by omega) (by omega) (by omega) h4.1 h4.2.1
  unfold lower_maker_sum_l4
  exact loop_step (by omega) s1 (loop_step (by omega) s2 (loop_step (by omega) s3 (loop_step (by omega) s4 (loop_step (by omega) s5 (loop_stop (by omega) (real_end N _ _ _))))))

theorem ref_sumL (N : Nat) (gs : List Gate) (g q : Int) (hN : 6 < N) (hl : gs.length < 2000000000) (hg : In gs g) (hq : In gs q) : bautaref16_M_sum_l5 N (g, q, 1, gs) = some ((sumL g q gs).1, (sumL g q gs).2.2) := by
  have h1 := sstep_in 1 hg hq
  have h2 := sstep_in 2 h1.1 h1.2.1
  have h3 := sstep_in 4 h2.1 h2.2.1
  have h4 := sstep_in 8 h3.1 h3.2.1
  have e1 := h1.2.2.2.1 (by decide)
  have e2 := h2.2.2.2.1 (by decide)
  have e3 := h3.2.2.2.1 (by decide)
  have e4 := h4.2.2.2.1 (by decide)
  have s1 := ref_sstep N gs g q 1 (by omega) (by omega) hg hq
  have s2 := ref_sstep N _ _ _ 2 (by omega) (by omega) h1.1 h1.2.1
  have s3 := ref_sstep N _ _ _ 4 (by omega) (by omega) h2.1 h2.2.1
  have s4 := ref_sstep N _ _ _ 8 (by omega) (by omega) h3.1 h3.2.1
  have s5 := ref_sstep N _ _ _ 16 (by omega) (by omega) h4.1 h4.2.1
  unfold bautaref16_M_sum_l5
  exact loop_step (by omega) s1 (loop_step (by omega) s2 (loop_step (by omega) s3 (loop_step (by omega) s4 (loop_step (by omega) s5 (loop_stop (by omega) (ref_end N _ _ _))))))

theorem real_sum (N : Nat) (gs : List Gate) (a b : Int) (hN : 6 < N) (hl : gs.length < 1000000000) (ha : In gs a) (hb : In gs b) : lower_maker_sum N a b gs = some (sumS a b gs) := by
  have hp := app_old (app_new gs 4 a b 0) 3 a b 0
  have hg := app_new (app gs 4 a b 0).2 3 a b 0
  have h := sumL_in hg hp
  have e := h.2.2.2
  simp only [app_len] at e
  have hloop := real_sumL N _ _ _ hN (by simp only [app_len]; omega) hg hp
  simp only [lower_maker_sum, lower_maker_sum_T, lower_maker_xor, lower_maker_xor_T, lower_maker_and, lower_maker_and_T, lower_maker_left, lower_maker_left_T, run_call, run_ret]
  rw [real_add2 N gs 4 a b 0 (by omega) (by omega) tk4 ha hb]
  simp only [Option.bind_some]
  rw [real_add2 N _ 3 a b 0 (by omega) (by simp only [app_len]; omega) tk3 (app_old ha _ _ _ _) (app_old hb _ _ _ _)]
  simp only [Option.bind_some, hloop]
  rw [real_add1 N _ 6 _ 1 (by omega) (by omega) tk6 h.1]
  simp only [Option.bind_some]
  rw [real_add2 N _ 4 _ _ 0 (by omega) (by simp only [app_len]; omega) tk4 (app_old (h.2.2.1 _ hp) _ _ _ _) (app_new _ _ _ _ _)]
  rfl

theorem ref_sum (N : Nat) (gs : List Gate) (a b : Int) (hN : 6 < N) (hl : gs.length < 1000000000) (ha : In gs a) (hb : In gs b) : bautaref16_M_sum N a b gs = some (sumS a b gs) := by
  have t2 : ∀ {k}, takes k = 1 → ¬ (2 ≤ takes k) := fun h => by omega
  have hp := app_old (app_new gs 4 a b 0) 3 a b 0
  have hg := app_new (app gs 4 a b 0).2 3 a b 0
  have h := sumL_in hg hp
  have e := h.2.2.2
  simp only [app_len] at e
  have hloop := ref_sumL N _ _ _ hN (by simp only [app_len]; omega) hg hp
  simp only [bautaref16_M_sum, bautaref16_M_sum_T, run_call, run_ret]
  rw [ref_add N gs 4 a b 0 (by omega) (fun _ => ha) (fun _ => hb)]
  simp only [Option.bind_some]
  rw [ref_add N _ 3 a b 0 (by simp only [app_len]; omega) (fun _ => app_old ha _ _ _ _) (fun _ => app_old hb _ _ _ _)]
  simp only [Option.bind_some, hloop]
  rw [ref_add N _ 6 _ 0 1 (by omega) (fun _ => h.1) (fun h => absurd h (t2 tk6))]
  simp only [Option.bind_some]
  rw [ref_add N _ 4 _ _ 0 (by simp only [app_len]; omega) (fun _ => app_old (h.2.2.1 _ hp) _ _ _ _) (fun _ => app_new _ _ _ _ _)]
  rfl

/-! ### Gates -/
def gateS (k n a b : Int) (gs : List Gate) : Int × List Gate :=
  if k = 9 then
    let x := app gs 5 a 0 0
    let y := app x.2 5 b 0 0
    let z := app y.2 3 x.1 y.1 0
    app z.2 5 z.1 0 0
  else if k = 10 then sumS a b gs
  else if k = 11 then
    let y := app gs 5 a 0 0
    let z := sumS y.1 b y.2
    app z.2 5 z.1 0 0
  else app gs k a b n

/-- How many gates a kind comes to. -/
def cnt (k : Int) : Nat := if k = 9 then 4 else if k = 10 then 27 else if k = 11 then 29 else 1

theorem gate_in (k n : Int) {a b : Int} {gs : List Gate} (h1 : 1 ≤ takes k → In gs a) (h2 : 2 ≤ takes k → In gs b) :
    In (gateS k n a b gs).2 (gateS k n a b gs).1 ∧ (∀ z, In gs z → In (gateS k n a b gs).2 z) ∧ (gateS k n a b gs).2.length = gs.length + cnt k := by
  unfold gateS cnt
  by_cases h9 : k = 9
  · simp only [h9, if_true]
    exact ⟨app_new _ _ _ _ _, fun z hz => app_old (app_old (app_old (app_old hz _ _ _ _) _ _ _ _) _ _ _ _) _ _ _ _, by simp only [app_len]⟩
  by_cases h10 : k = 10
  · subst h10
    simp only [if_true, if_false, h9]
    exact sum_in (h1 (by decide)) (h2 (by decide))
  by_cases h11 : k = 11
  · subst h11
    have hs := sum_in (app_new gs 5 a 0 0) (app_old (h2 (by decide)) 5 a 0 0)
    simp only [if_true, if_false, h9, h10]
    exact ⟨app_new _ _ _ _ _, fun z hz => app_old (hs.2.1 z (app_old hz _ _ _ _)) _ _ _ _, by simp only [app_len, hs.2.2]⟩
  · simp only [h9, h10, h11, if_false]
    exact ⟨app_new _ _ _ _ _, fun z hz => app_old hz _ _ _ _, by simp only [app_len]⟩

theorem real_gate_m (N : Nat) (gs : List Gate) (k n a b : Int) (hN : 6 < N) (hl : gs.length < 900000000) (hk : 0 ≤ k ∧ k ≤ 11) (h1 : 1 ≤ takes k → In gs a) (h2 : 2 ≤ takes k → In gs b) :
    lower_maker_gate N k n a b gs = some (gateS k n (if 1 ≤ takes k then a else 0) (if 2 ≤ takes k then b else 0) gs) := by
  have j16 : ∀ c, takes k = 1 → lower_maker_gate_j16 N a c gs k n = some (if c = true then .inl (app gs k a 0 n) else .inr ()) := by
    intro c hc
    simp only [lower_maker_gate_j16, lower_maker_gate_j16_T, run_br, run_call, run_ret]
    rw [real_add1 N gs k a n (by omega) (by omega) hc (h1 (by omega))]
    cases c <;> rfl
  have j16' : lower_maker_gate_j16 N a false gs k n = some (.inr ()) := rfl
  simp only [lower_maker_gate, lower_maker_gate_T, lower_maker_gate_j11, lower_maker_gate_j11_T, lower_maker_not, lower_maker_not_T, lower_maker_and, lower_maker_and_T, run_br, run_call, run_ret, beq_iffI]
  rcases kinds hk with rfl | rfl | rfl | rfl | rfl | rfl | rfl | rfl | rfl | rfl | rfl | rfl
  · simp [j16', real_add0 N gs 0 n (by omega) (by omega) (by decide)]; rfl
  · simp [j16', real_add0 N gs 1 n (by omega) (by omega) (by decide)]; rfl
  · simp [j16', real_add0 N gs 2 n (by omega) (by omega) (by decide)]; rfl
  · simp [real_add2 N gs 3 a b n (by omega) (by omega) (by decide) (h1 (by decide)) (h2 (by decide))]; rfl
  · simp [real_add2 N gs 4 a b n (by omega) (by omega) (by decide) (h1 (by decide)) (h2 (by decide))]; rfl
  · simp [j16 _ (by decide)]; rfl
  · simp [j16 _ (by decide)]; rfl
  · simp [j16 _ (by decide)]; rfl
  · simp [j16 _ (by decide)]; rfl
  · have ha := h1 (by decide)
    have hb := h2 (by decide)
    have r1 := real_add1 N gs 5 a 0 (by omega) (by omega) tk5 ha
    have r2 := real_add1 N _ 5 b 0 (by omega) (by simp only [app_len]; omega) tk5 (app_old hb 5 a 0 0)
    have r3 := real_add2 N _ 3 _ _ 0 (by omega) (by simp only [app_len]; omega) tk3 (app_old (app_new gs 5 a 0 0) 5 b 0 0) (app_new _ 5 b 0 0)
    have r4 := real_add1 N _ 5 _ 0 (by omega) (by simp only [app_len]; omega) tk5 (app_new (app (app gs 5 a 0 0).2 5 b 0 0).2 3 (app gs 5 a 0 0).1 (app (app gs 5 a 0 0).2 5 b 0 0).1 0)
    simp only [r1, r2, r3, r4, Option.bind_some, if_true]
    rfl
  · have ha := h1 (by decide)
    have hb := h2 (by decide)
    have r1 := real_sum N gs a b hN (by omega) ha hb
    simp [r1]; rfl
  · have ha := h1 (by decide)
    have hb := h2 (by decide)
    have r1 := real_add1 N gs 5 a 0 (by omega) (by omega) tk5 ha
    have r2 := real_sum N _ _ b hN (by simp only [app_len]; omega) (app_new gs 5 a 0 0) (app_old hb 5 a 0 0)
    have hs := sum_in (app_new gs 5 a 0 0) (app_old hb 5 a 0 0)
    have e := hs.2.2
    simp only [app_len] at e
    have r3 := real_add1 N _ 5 _ 0 (by omega) (by omega) tk5 hs.1
    simp only [r1, r2, r3, Option.bind_some, if_true]
    rfl

/-- One gate of the circuit, by a few kinds. -/
def lstep (st : List Int × List Gate) (g : Gate) : List Int × List Gate :=
  let r := gateS g.1 g.2.2.2.1 (if 1 ≤ takes g.1 then st.1.getD g.2.1.toNat 0 else 0) (if 2 ≤ takes g.1 then st.1.getD g.2.2.1.toNat 0 else 0) st.2
  (st.1 ++ [r.1], r.2)

def lall (gs : List Gate) : List Int × List Gate := gs.foldl lstep ([], [])

theorem lall_snoc (gs : List Gate) (g : Gate) : lall (gs ++ [g]) = lstep (lall gs) g := by simp [lall]

theorem lall_take (gs : List Gate) (i : Nat) (h : i < gs.length) : lall (gs.take (i + 1)) = lstep (lall (gs.take i)) gs[i] := by
  rw [take_snoc _ h]
  exact lall_snoc _ _

/-- How many gates it comes to. -/
def total (gs : List Gate) : Nat := (gs.map fun g => cnt g.1).sum

/-- All gates are as they should be, each of those ahead of it. -/
def AllOK (gs : List Gate) (s p : Int) : Prop := ∀ i, i < gs.length → GateOK gs s p i (gs.getD i g0)

theorem lall_in (gs : List Gate) (s p : Int) (h : AllOK gs s p) : ∀ i, i ≤ gs.length →
    (lall (gs.take i)).1.length = i ∧ (∀ j, j < i → In (lall (gs.take i)).2 ((lall (gs.take i)).1.getD j 0)) ∧ (lall (gs.take i)).2.length = total (gs.take i)
  | 0, _ => by simp [lall, total]
  | i + 1, hi => by
    obtain ⟨ih1, ih2, ih3⟩ := lall_in gs s p h i (by omega)
    have hg : gs.getD i g0 = gs[i] := getD_nat _ _ _ (by omega)
    have hok := h i (by omega)
    rw [hg] at hok
    have ha : 1 ≤ takes gs[i].1 → In (lall (gs.take i)).2 (if 1 ≤ takes gs[i].1 then (lall (gs.take i)).1.getD gs[i].2.1.toNat 0 else 0) := by
      intro h1
      have := hok.2.2.2.1 h1
      rw [if_pos h1]
      exact ih2 _ (by omega)
    have hb : 2 ≤ takes gs[i].1 → In (lall (gs.take i)).2 (if 2 ≤ takes gs[i].1 then (lall (gs.take i)).1.getD gs[i].2.2.1.toNat 0 else 0) := by
      intro h1
      have := hok.2.2.2.2.1 h1
      rw [if_pos h1]
      exact ih2 _ (by omega)
    obtain ⟨g1, g2, g3⟩ := gate_in gs[i].1 gs[i].2.2.2.1 ha hb
    rw [lall_take gs i (by omega)]
    simp only [lstep]
    refine ⟨by simp [ih1], fun j hj => ?_, ?_⟩
    · rcases Nat.lt_or_ge j i with h3 | h3
      · rw [getD_left _ _ _ (by omega)]
        exact g2 _ (ih2 j h3)
      · obtain rfl : j = i := by omega
        rw [getD_last _ _ _ ih1.symm]
        exact g1
    · rw [g3, ih3, take_snoc _ (by omega : i < gs.length)]
      simp only [total, List.map_append, List.sum_append, List.map_cons, List.map_nil, List.sum_cons, List.sum_nil, Nat.add_zero]

theorem total_le (gs : List Gate) (i : Nat) : total (gs.take i) ≤ total gs := by
  conv => rhs; rw [← List.take_append_drop i gs]
  simp only [total, List.map_append, List.sum_append]
  omega

theorem cnt_le (k : Int) : 1 ≤ cnt k ∧ cnt k ≤ 29 := by unfold cnt; split <;> (try split) <;> (try split) <;> omega

theorem total_bound (gs : List Gate) : gs.length ≤ total gs ∧ total gs ≤ 29 * gs.length := by
  induction gs with
  | nil => simp [total]
  | cons g gs ih =>
    have := cnt_le g.1
    simp only [total, List.map_cons, List.sum_cons, List.length_cons] at ih ⊢
    omega

/-! ### Circuits -/
def lout (now : List Int) (os : List GOut) : List GOut := os.map fun o => (o.1, now.getD o.2.toNat 0)

def lowS (gs : List Gate) (s p : Int) (os : List GOut) : Int × Int × Int × List Gate × List GOut :=
  if CanOK gs s p os then (if 8000 < (lall gs).2.length then (0, 0, 150, [], []) else (s, p, 0, (lall gs).2, lout (lall gs).1 os)) else (0, 0, 1, [], [])

theorem total_mono (gs : List Gate) {i j : Nat} (h : i ≤ j) : total (gs.take i) ≤ total (gs.take j) := by
  have := total_le (gs.take j) i
  rwa [List.take_take, Nat.min_eq_left h] at this

theorem real_l6 (N : Nat) (gs : List Gate) (s p : Int) (h : AllOK gs s p) (hl : gs.length ≤ 8000) (hN : 8000 < N) :
    lower_Circuit_l6 N gs gs.length (0, [], []) = some (if 8000 < (lall gs).2.length then .inl () else .inr (lall gs)) := by
  have hall : lall gs = lall (gs.take gs.length) := by rw [List.take_length]
  have hlen := (lall_in gs s p h gs.length (Nat.le_refl _)).2.2
  unfold lower_Circuit_l6
  refine loop_st (s := fun v => lower_Circuit_l6_T N gs gs.length v.1 v.2.1 v.2.2) (fun i : Nat => ((i : Int), (lall (gs.take i)).1, (lall (gs.take i)).2)) (fun i => gs.length - i) (fun i => i ≤ gs.length ∧ total (gs.take i) ≤ 8000) (fun _ => if 8000 < (lall gs).2.length then Sum.inl () else Sum.inr (lall gs)) (fun i hi => ?_) N 0 ⟨by omega, by simp [total]⟩ (by omega)
  rcases Nat.lt_or_ge i gs.length with hlt | hge
  · have hg : gs.getD i g0 = gs[i] := getD_nat _ _ _ hlt
    have hok := h i hlt
    rw [hg] at hok
    obtain ⟨i1, i2, i3⟩ := lall_in gs s p h i (by omega)
    obtain ⟨n1, n2, n3⟩ := lall_in gs s p h (i + 1) (by omega)
    have hst := lall_take gs i hlt
    have hmono := total_mono gs (i := i + 1) (j := gs.length) (by omega)
    have j11 : ∀ a b, (1 ≤ takes gs[i].1 → a = (lall (gs.take i)).1.getD gs[i].2.1.toNat 0) → (2 ≤ takes gs[i].1 → b = (lall (gs.take i)).1.getD gs[i].2.2.1.toNat 0) →
        (8000 < (lall (gs.take (i + 1))).2.length → lower_Circuit_j11 N a b (lall (gs.take i)).1 gs[i].1 gs[i].2.2.2.1 (lall (gs.take i)).2 = some (.inl ())) ∧ (¬ 8000 < (lall (gs.take (i + 1))).2.length → lower_Circuit_j11 N a b (lall (gs.take i)).1 gs[i].1 gs[i].2.2.2.1 (lall (gs.take i)).2 = some (.inr (lall (gs.take (i + 1))))) := by
      intro a b ha hb
      have hia : 1 ≤ takes gs[i].1 → In (lall (gs.take i)).2 a := fun h1 => by rw [ha h1]; exact i2 _ (by have := hok.2.2.2.1 h1; omega)
      have hib : 2 ≤ takes gs[i].1 → In (lall (gs.take i)).2 b := fun h1 => by rw [hb h1]; exact i2 _ (by have := hok.2.2.2.2.1 h1; omega)
      have ea : (if 1 ≤ takes gs[i].1 then a else 0) = if 1 ≤ takes gs[i].1 then (lall (gs.take i)).1.getD gs[i].2.1.toNat 0 else 0 := by
        split
        · rename_i h1; exact ha h1
        · rfl
      have eb : (if 2 ≤ takes gs[i].1 then b else 0) = if 2 ≤ takes gs[i].1 then (lall (gs.take i)).1.getD gs[i].2.2.1.toNat 0 else 0 := by
        split
        · rename_i h1; exact hb h1
        · rfl
      obtain ⟨r, hr0⟩ : ∃ r, gateS gs[i].1 gs[i].2.2.2.1 (if 1 ≤ takes gs[i].1 then (lall (gs.take i)).1.getD gs[i].2.1.toNat 0 else 0) (if 2 ≤ takes gs[i].1 then (lall (gs.take i)).1.getD gs[i].2.2.1.toNat 0 else 0) (lall (gs.take i)).2 = r := ⟨_, rfl⟩
      have hls : lstep (lall (gs.take i)) gs[i] = ((lall (gs.take i)).1 ++ [r.1], r.2) := by simp only [lstep, hr0]
      have e : lower_Circuit_j11 N a b (lall (gs.take i)).1 gs[i].1 gs[i].2.2.2.1 (lall (gs.take i)).2 = if (8000 : Int) < r.2.length then some (.inl ()) else some (.inr ((lall (gs.take i)).1 ++ [r.1], r.2)) := by
        simp only [lower_Circuit_j11, lower_Circuit_j11_T, run_call, real_gate_m N _ gs[i].1 gs[i].2.2.2.1 a b (by omega) (by omega) hok.1 hia hib, ea, eb, hr0, Option.bind_some]
        simp only [run_br, run_ret, ltI_eq, decide_eq_true_eq, i1]
        rw [if_pos (by omega)]
      rw [hst, hls, e]
      exact ⟨fun hr => by rw [if_pos (by simp only at hr; omega)], fun hr => by rw [if_neg (by simp only at hr; omega)]⟩
    have key : (lower_Circuit_l6_T N gs gs.length i (lall (gs.take i)).1 (lall (gs.take i)).2).run some = some (if 8000 < (lall (gs.take (i + 1))).2.length then .inr (.inl ()) else .inl (((i + 1 : Nat) : Int), (lall (gs.take (i + 1))).1, (lall (gs.take (i + 1))).2)) := by
      simp only [lower_Circuit_l6_T, run_br, run_call, run_ret, ltI_eq, decide_eq_true_eq, inRange_iff, toNat_nat, hg, i1, i64_succ (i := i) (by omega)]
      rw [if_pos (by omega), if_pos (by omega)]
      by_cases h0 : (0 : Int) < i
      · have b1 : 0 ≤ gs[i].2.1 ∧ gs[i].2.1 < (i : Int) := by
          rcases takes_cases gs[i].1 with ht | ht | ht
          · have := hok.2.1 (by omega); omega
          · have := hok.2.2.2.1 (by omega); omega
          · have := hok.2.2.2.1 (by omega); omega
        have b2 : 0 ≤ gs[i].2.2.1 ∧ gs[i].2.2.1 < (i : Int) := by
          rcases takes_cases gs[i].1 with ht | ht | ht
          · have := hok.2.2.1 (by omega); omega
          · have := hok.2.2.1 (by omega); omega
          · have := hok.2.2.2.2.1 (by omega); omega
        rw [if_pos h0, if_pos b1, if_pos b2]
        by_cases hc : 8000 < (lall (gs.take (i + 1))).2.length
        · rw [(j11 _ _ (fun _ => rfl) (fun _ => rfl)).1 hc, if_pos hc]
          rfl
        · rw [(j11 _ _ (fun _ => rfl) (fun _ => rfl)).2 hc, if_neg hc]
          rfl
      · have jj := j11 0 0 (fun h1 => by have := hok.2.2.2.1 h1; omega) (fun h1 => by have := hok.2.2.2.2.1 h1; omega)
        rw [if_neg h0]
        by_cases hc : 8000 < (lall (gs.take (i + 1))).2.length
        · rw [jj.1 hc, if_pos hc]
          rfl
        · rw [jj.2 hc, if_neg hc]
          rfl
    by_cases hbig : 8000 < (lall (gs.take (i + 1))).2.length
    · refine .inr ?_
      rw [key, if_pos hbig, if_pos (by rw [hall, hlen]; omega)]
    · refine .inl ⟨i + 1, ?_, ⟨by omega, by omega⟩, by omega, rfl⟩
      rw [key, if_neg hbig]
  · obtain rfl : i = gs.length := by omega
    refine .inr ?_
    have : ¬ 8000 < (lall gs).2.length := by rw [hall, hlen]; omega
    rw [if_neg this, hall]
    simp [lower_Circuit_l6_T]

theorem real_l16 (N : Nat) (os : List GOut) (now : List Int) (ho : os.length ≤ 8000) (hN : 8000 < N) (hb : ∀ j, j < os.length → 0 ≤ (os.getD j (ByteArray.empty, 0)).2 ∧ (os.getD j (ByteArray.empty, 0)).2 < now.length) :
    lower_Circuit_l16 N os os.length now (0, []) = some (lout now os) := by
  unfold lower_Circuit_l16
  have := loop_up (s := fun v => lower_Circuit_l16_T N os os.length now v.1 v.2) (fun i : Nat => ((i : Int), lout now (os.take i))) os.length (lout now os) (k := 0) (m := N) (by omega) (by omega) (fun i _ hi => ?_) ?_
  · exact this
  · have hg : os.getD i (ByteArray.empty, 0) = os[i] := getD_nat _ _ _ hi
    have hbi := hb i hi
    rw [hg] at hbi
    have hll : (lout now (os.take i)).length = i := by simp [lout]; omega
    simp only [lower_Circuit_l16_T, run_br, run_ret, ltI_eq, decide_eq_true_eq, inRange_iff, toNat_nat, hg, i64_succ (i := i) (by omega), hll]
    rw [if_pos (by omega), if_pos (by omega), if_pos hbi, if_pos (by omega), take_snoc _ hi]
    simp only [lout, List.map_append, List.map_cons, List.map_nil]
  · simp [lower_Circuit_l16_T]

theorem real_circuit (N : Nat) (gs : List Gate) (s p : Int) (os : List GOut) (hw : Wds gs) (hl : gs.length ≤ 8000) (ho : os.length ≤ 8000) (hN : 8000 < N) : lower_Circuit N gs s p os = some (lowS gs s p os) := by
  simp only [lower_Circuit, lower_Circuit_T, run_call, real_Can N gs s p os hw (by omega) (by omega) (by omega), Option.bind_some, run_br, run_ret, lowS]
  by_cases hc : CanOK gs s p os
  · have hi := lall_in gs s p hc.2.2.2.1 gs.length (Nat.le_refl _)
    rw [List.take_length] at hi
    simp only [hc, decide_true, Bool.not_true, Bool.false_eq_true, if_false, if_true, real_l6 N gs s p hc.2.2.2.1 hl hN, Option.bind_some]
    by_cases hb : 8000 < (lall gs).2.length
    · simp only [hb, if_true, run_inl, run_ret]
    · simp only [hb, if_false, run_inr, run_call, real_l16 N os (lall gs).1 ho hN (by rw [hi.1]; exact hc.2.2.2.2), Option.bind_some, run_ret]
  · simp [hc]

theorem ref_l7 (N : Nat) (gs : List Gate) (s p : Int) (h : AllOK gs s p) (hl : gs.length ≤ 8000) (hN : 8000 < N) :
    bautaref16_Circuit_l7 N gs (0, [], []) = some (lall gs) := by
  have hall : lall gs = lall (gs.take gs.length) := by rw [List.take_length]
  unfold bautaref16_Circuit_l7
  have := loop_up (s := fun v => bautaref16_Circuit_l7_T N gs v.1 v.2.1 v.2.2) (fun i : Nat => ((i : Int), (lall (gs.take i)).1, (lall (gs.take i)).2)) gs.length (lall gs) (k := 0) (m := N) (by omega) (by omega) (fun i _ hlt => ?_) ?_
  · exact this
  · have hg : gs.getD i g0 = gs[i] := getD_nat _ _ _ hlt
    have hok := h i hlt
    rw [hg] at hok
    obtain ⟨i1, i2, i3⟩ := lall_in gs s p h i (by omega)
    have tb := (total_bound (gs.take i)).2
    have tl : (gs.take i).length = i := by simp; omega
    have hst := lall_take gs i hlt
    have t2 : ∀ {k}, takes k = 1 → ¬ (2 ≤ takes k) := fun h => by omega
    have j15 : ∀ a b, a = (if 1 ≤ takes gs[i].1 then (lall (gs.take i)).1.getD gs[i].2.1.toNat 0 else 0) → b = (if 2 ≤ takes gs[i].1 then (lall (gs.take i)).1.getD gs[i].2.2.1.toNat 0 else 0) →
        bautaref16_Circuit_j15 N a b (lall (gs.take i)).1 gs[i].1 gs[i].2.2.2.1 (lall (gs.take i)).2 = some (lall (gs.take (i + 1))) := by
      intro a b ha hb
      have hia : 1 ≤ takes gs[i].1 → In (lall (gs.take i)).2 a := fun h1 => by rw [ha, if_pos h1]; exact i2 _ (by have := hok.2.2.2.1 h1; omega)
      have hib : 2 ≤ takes gs[i].1 → In (lall (gs.take i)).2 b := fun h1 => by rw [hb, if_pos h1]; exact i2 _ (by have := hok.2.2.2.2.1 h1; omega)
      have cap : ((i : Int) + 1) * 8 < 140737488355328 := by omega
      rw [hst]
      simp only [lstep, ← ha, ← hb]
      generalize (lall (gs.take i)).2 = m at *
      generalize (lall (gs.take i)).1 = now at *
      simp only [bautaref16_Circuit_j15, bautaref16_Circuit_j15_T, run_call, run_br, run_ret, beq_iffI, ltI_eq, decide_eq_true_eq, i1, cap, if_true, gateS]
      clear ha hb
      by_cases h9 : gs[i].1 = 9
      · have hx := hia (by rw [h9]; decide)
        have hy := hib (by rw [h9]; decide)
        have r1 := ref_add N m 5 a 0 0 (by omega) (fun _ => hx) (fun h => absurd h (t2 tk5))
        have r2 := ref_add N _ 5 b 0 0 (by simp only [app_len]; omega) (fun _ => app_old hy 5 a 0 0) (fun h => absurd h (t2 tk5))
        have r3 := ref_add N _ 3 _ _ 0 (by simp only [app_len]; omega) (fun _ => app_old (app_new m 5 a 0 0) 5 b 0 0) (fun _ => app_new _ 5 b 0 0)
        have r4 := ref_add N _ 5 _ 0 0 (by simp only [app_len]; omega) (fun _ => app_new (app (app m 5 a 0 0).2 5 b 0 0).2 3 (app m 5 a 0 0).1 (app (app m 5 a 0 0).2 5 b 0 0).1 0) (fun h => absurd h (t2 tk5))
        simp only [h9, if_true, r1, r2, r3, r4, Option.bind_some]
      by_cases h10 : gs[i].1 = 10
      · have hx := hia (by rw [h10]; decide)
        have hy := hib (by rw [h10]; decide)
        simp only [h9, h10, if_true, if_false, ref_sum N m a b (by omega) (by omega) hx hy, Option.bind_some]
        rfl
      by_cases h11 : gs[i].1 = 11
      · have hx := hia (by rw [h11]; decide)
        have hy := hib (by rw [h11]; decide)
        have r1 := ref_add N m 5 a 0 0 (by omega) (fun _ => hx) (fun h => absurd h (t2 tk5))
        have r2 := ref_sum N _ _ b (by omega) (by simp only [app_len]; omega) (app_new m 5 a 0 0) (app_old hy 5 a 0 0)
        have hs := sum_in (app_new m 5 a 0 0) (app_old hy 5 a 0 0)
        have e := hs.2.2
        simp only [app_len] at e
        have r3 := ref_add N _ 5 _ 0 0 (by omega) (fun _ => hs.1) (fun h => absurd h (t2 tk5))
        simp only [h11, if_true, if_false, r1, r2, r3, Option.bind_some]
        rfl
      · simp only [h9, h10, h11, if_false, ref_add N m gs[i].1 a b gs[i].2.2.2.1 (by omega) hia hib, Option.bind_some]
    have j13 : ∀ a, a = (if 1 ≤ takes gs[i].1 then (lall (gs.take i)).1.getD gs[i].2.1.toNat 0 else 0) → bautaref16_Circuit_j13 N a 0 (lall (gs.take i)).1 gs[i].1 gs[i].2.2.1 gs[i].2.2.2.1 (lall (gs.take i)).2 = some (lall (gs.take (i + 1))) := by
      intro a ha
      simp only [bautaref16_Circuit_j13, bautaref16_Circuit_j13_T, run_call, ref_takes, Option.bind_some, run_br, run_ret, ltI_eq, decide_eq_true_eq, inRange_iff, i1]
      by_cases h2 : 1 < takes gs[i].1
      · have hb := hok.2.2.2.2.1 h2
        rw [if_pos h2, if_pos hb, j15 a _ ha (by rw [if_pos (by omega)])]
        rfl
      · rw [if_neg h2, j15 a _ ha (by rw [if_neg (by omega)])]
        rfl
    simp only [bautaref16_Circuit_l7_T, run_br, run_call, run_ret, ltI_eq, decide_eq_true_eq, inRange_iff, toNat_nat, hg, ref_takes, Option.bind_some, i1, i64_succ (i := i) (by omega)]
    rw [if_pos (by omega), if_pos (by omega)]
    by_cases h1 : 0 < takes gs[i].1
    · have hb := hok.2.2.2.1 h1
      rw [if_pos h1, if_pos hb, j13 _ (by rw [if_pos (by omega)])]
      rfl
    · rw [if_neg h1, j13 _ (by rw [if_neg (by omega)])]
      rfl
  · rw [hall]
    simp [bautaref16_Circuit_l7_T]

theorem ref_l31 (N : Nat) (os : List GOut) (now : List Int) (ho : os.length ≤ 8000) (hN : 8000 < N) (hb : ∀ j, j < os.length → 0 ≤ (os.getD j (ByteArray.empty, 0)).2 ∧ (os.getD j (ByteArray.empty, 0)).2 < now.length) :
    bautaref16_Circuit_l31 N os now (0, []) = some (lout now os) := by
  unfold bautaref16_Circuit_l31
  have := loop_up (s := fun v => bautaref16_Circuit_l31_T N os now v.1 v.2) (fun i : Nat => ((i : Int), lout now (os.take i))) os.length (lout now os) (k := 0) (m := N) (by omega) (by omega) (fun i _ hi => ?_) ?_
  · exact this
  · have hg : os.getD i (ByteArray.empty, 0) = os[i] := getD_nat _ _ _ hi
    have hbi := hb i hi
    rw [hg] at hbi
    have hll : (lout now (os.take i)).length = i := by simp [lout]; omega
    simp only [bautaref16_Circuit_l31_T, run_br, run_ret, ltI_eq, decide_eq_true_eq, inRange_iff, toNat_nat, hg, i64_succ (i := i) (by omega), hll]
    rw [if_pos (by omega), if_pos (by omega), if_pos (by omega), if_pos hbi, if_pos (by omega), take_snoc _ hi]
    simp only [lout, List.map_append, List.map_cons, List.map_nil]
  · simp [bautaref16_Circuit_l31_T]

theorem ref_circuit (N : Nat) (gs : List Gate) (s p : Int) (os : List GOut) (hw : Wds gs) (hl : gs.length ≤ 8000) (ho : os.length ≤ 8000) (hN : 8000 < N) : bautaref16_Circuit N gs s p os = some (lowS gs s p os) := by
  by_cases hc : CanOK gs s p os
  · have hi := lall_in gs s p hc.2.2.2.1 gs.length (Nat.le_refl _)
    rw [List.take_length] at hi
    have e : bautaref16_Circuit N gs s p os = if (8000 : Int) < (lall gs).2.length then some (0, 0, 150, [], []) else some (s, p, 0, (lall gs).2, lout (lall gs).1 os) := by
      simp only [bautaref16_Circuit, bautaref16_Circuit_T, run_call, ref_can N gs s p os hw (by omega) (by omega) (by omega), Option.bind_some, hc, decide_true, Bool.not_true, ref_l7 N gs s p hc.2.2.2.1 hl hN]
      simp only [run_call, run_br, run_ret, Bool.false_eq_true, if_false, ltI_eq, decide_eq_true_eq, Option.bind_some, ref_l31 N os (lall gs).1 ho hN (by rw [hi.1]; exact hc.2.2.2.2)]
    rw [e, lowS, if_pos hc]
    by_cases hb : 8000 < (lall gs).2.length
    · rw [if_pos (by omega), if_pos hb]
    · rw [if_neg (by omega), if_neg hb]
  · simp only [bautaref16_Circuit, bautaref16_Circuit_T, run_call, ref_can N gs s p os hw (by omega) (by omega) (by omega), Option.bind_some, hc, decide_false, lowS, if_false]
    rfl

/-! ### What is made of a few kinds; ands -/
def FewK (gs : List Gate) : Prop := ∀ i, i < gs.length → (gs.getD i g0).1 ≤ 8
instance (gs : List Gate) : Decidable (FewK gs) := by unfold FewK; infer_instance

theorem real_index (N : Nat) (gs : List Gate) (hl : gs.length ≤ 9000000) (hN : gs.length < N) :
    slices_ContainsFunc N gs = some (!decide (∀ i, i < gs.length → ¬ ((gs.getD i g0).1 = 9 ∨ (gs.getD i g0).1 = 10 ∨ (gs.getD i g0).1 = 11))) := by
  have h1 : ∀ k, lower_Plain_1 N k = some (decide (k = 9 ∨ k = 10 ∨ k = 11)) := by
    intro k
    simp only [lower_Plain_1, lower_Plain_1_T, run_br, run_ret, beq_iffI]
    by_cases h9 : k = 9 <;> by_cases h10 : k = 10 <;> simp [h9, h10] <;> try rfl
  have := loop_find (s := fun v => slices_IndexFunc_l2_T N gs gs.length v) (fun i : Nat => (i : Int)) (fun i => ¬ ((gs.getD i g0).1 = 9 ∨ (gs.getD i g0).1 = 10 ∨ (gs.getD i g0).1 = 11)) gs.length (fun i => Sum.inl (i : Int)) (Sum.inr ()) hN (fun i hi _ => ?_) (fun _ => ?_)
  · simp only [slices_ContainsFunc, slices_ContainsFunc_T, slices_IndexFunc, slices_IndexFunc_T, run_call, run_ret, slices_IndexFunc_l2]
    rcases this with ⟨ha, hb⟩ | ⟨i, hi, ha, _, hb⟩
    · erw [hb]
      rw [decide_eq_true ha]
      rfl
    · erw [hb]
      have hne : ¬ ∀ i, i < gs.length → ¬ ((gs.getD i g0).1 = 9 ∨ (gs.getD i g0).1 = 10 ∨ (gs.getD i g0).1 = 11) := fun h => ha (h i hi)
      rw [decide_eq_false hne]
      simp only [Option.bind_some, run_inl, run_ret, leI_eq]
      simp
  · simp only [slices_IndexFunc_l2_T, run_br, run_call, run_ret, ltI_eq, decide_eq_true_eq, inRange_iff, toNat_nat, h1, Option.bind_some, i64_succ (i := i) (by omega)]
    rw [if_pos (by omega), if_pos (by omega)]
    generalize (gs.getD i g0).1 = k
    by_cases hk : k = 9 ∨ k = 10 ∨ k = 11 <;> simp [hk]
  · simp [slices_IndexFunc_l2_T]

theorem real_plain (N : Nat) (gs : List Gate) (s p : Int) (os : List GOut) (hw : Wds gs) (hl : gs.length ≤ 9000000) (ho : os.length ≤ 8000) (hN : 8000 < N) (hN' : gs.length < N) :
    lower_Plain N gs s p os = some (decide (CanOK gs s p os ∧ FewK gs)) := by
  simp only [lower_Plain, lower_Plain_T, run_br, run_call, run_ret, real_Can N gs s p os hw (by omega) (by omega) (by omega), Option.bind_some, real_index N gs hl hN', Bool.not_not, decide_eq_true_eq]
  by_cases hc : CanOK gs s p os
  · simp only [hc, if_true, true_and]
    congr 1
    rw [decide_eq_decide]
    exact ⟨fun h i hi => by have := h i hi; have := (hc.2.2.2.1 i hi).1; omega, fun h i hi => by have := h i hi; omega⟩
  · simp [hc]

theorem ref_plain (N : Nat) (gs : List Gate) (s p : Int) (os : List GOut) (hw : Wds gs) (hl : gs.length ≤ 9000000) (ho : os.length ≤ 8000) (hN : 8000 < N) (hN' : gs.length < N) :
    bautaref16_Plain N gs s p os = some (decide (CanOK gs s p os ∧ FewK gs)) := by
  have l1 : bautaref16_Plain_l2 N gs 0 = some (if ∀ i, i < gs.length → (gs.getD i g0).1 ≤ 8 then .inr () else .inl ()) := by
    unfold bautaref16_Plain_l2
    refine loop_all (m := N) (fun i => (gs.getD i g0).1 ≤ 8) gs.length (Sum.inl ()) (Sum.inr ()) hN' (fun i hi => ?_) ?_
    · simp only [bautaref16_Plain_l2_T, run_br, run_ret, ltI_eq, decide_eq_true_eq, inRange_iff, toNat_nat, i64_succ (i := i) (by omega), show ((0, (0, (0, (0, false)))) : Gate) = g0 from rfl]
      rw [if_pos (by omega), if_pos (by omega)]
      by_cases hk : (gs.getD i g0).1 ≤ 8
      · rw [if_neg (by omega), if_pos hk]
      · rw [if_pos (by omega), if_neg hk]
    · simp [bautaref16_Plain_l2_T]
  simp only [bautaref16_Plain, bautaref16_Plain_T, run_call, l1, Option.bind_some]
  by_cases hf : FewK gs
  · rw [if_pos (show ∀ i, i < gs.length → (gs.getD i g0).1 ≤ 8 from hf)]
    simp only [run_inr, run_call, ref_can N gs s p os hw (by omega) (by omega) (by omega), Option.bind_some, run_ret, hf, and_true]
  · rw [if_neg (show ¬ ∀ i, i < gs.length → (gs.getD i g0).1 ≤ 8 from hf)]
    simp [hf]

def andOf (gs : List Gate) (g : Gate) : Bool := decide (g.1 = 3) && (sec gs g.2.1 && sec gs g.2.2.1)
def nands (gs : List Gate) : Nat := gs.countP (andOf gs)

theorem real_ands (N : Nat) (gs : List Gate) (s p : Int) (os : List GOut) (hw : Wds gs) (hl : gs.length ≤ 9000000) (ho : os.length ≤ 8000) (hN : 8000 < N) (hN' : gs.length < N) :
    lower_Ands N gs s p os = some (if CanOK gs s p os then (nands gs : Int) else 0) := by
  simp only [lower_Ands, lower_Ands_T, run_br, run_call, run_ret, real_Can N gs s p os hw (by omega) (by omega) (by omega), Option.bind_some]
  by_cases hc : CanOK gs s p os
  · have l5 : lower_Ands_l5 N gs gs.length gs (0, 0) = some (nands gs : Int) := by
      unfold lower_Ands_l5
      have := loop_up (s := fun v => lower_Ands_l5_T N gs gs.length gs v.1 v.2) (fun i : Nat => (((gs.take i).countP (andOf gs) : Int), (i : Int))) gs.length (nands gs : Int) (k := 0) (m := N) (by omega) (by omega) (fun i _ hi => ?_) ?_
      · exact this
      · have hg : gs.getD i g0 = gs[i] := getD_nat _ _ _ hi
        have hok := hc.2.2.2.1 i hi
        rw [hg] at hok
        have hcl : (gs.take i).countP (andOf gs) ≤ i := Nat.le_trans List.countP_le_length (by simp; omega)
        simp only [lower_Ands_l5_T, run_br, run_ret, ltI_eq, decide_eq_true_eq, inRange_iff, toNat_nat, hg, beq_iffI, i64_succ (i := i) (by omega), i64_succ (i := (gs.take i).countP (andOf gs)) (by omega), take_snoc _ hi, List.countP_append, List.countP_singleton, andOf, sec]
        rw [if_pos (by omega), if_pos (by omega)]
        by_cases h3 : gs[i].1 = 3
        · have ht : takes gs[i].1 = 2 := by rw [h3]; decide
          have b1 := hok.2.2.2.1 (by omega)
          have b2 := hok.2.2.2.2.1 (by omega)
          have c1 : 0 ≤ gs[i].2.1 ∧ gs[i].2.1 < (gs.length : Int) := by omega
          have c2 : 0 ≤ gs[i].2.2.1 ∧ gs[i].2.2.1 < (gs.length : Int) := by omega
          simp only [if_pos h3, if_pos c1, if_pos c2, decide_eq_true h3]
          cases (gs.getD gs[i].2.1.toNat (0, 0, 0, 0, false)).2.2.2.2 <;> cases (gs.getD gs[i].2.2.1.toNat (0, 0, 0, 0, false)).2.2.2.2 <;> simp
        · rw [if_neg h3]
          simp [h3]
      · simp [lower_Ands_l5_T, nands]
    simp [hc, l5]
  · simp [hc]

theorem ref_ands (N : Nat) (gs : List Gate) (s p : Int) (os : List GOut) (hw : Wds gs) (hl : gs.length ≤ 9000000) (ho : os.length ≤ 8000) (hN : 8000 < N) (hN' : gs.length < N) :
    bautaref16_Ands N gs s p os = some (if CanOK gs s p os then (nands gs : Int) else 0) := by
  simp only [bautaref16_Ands, bautaref16_Ands_T, run_call, run_ret, Option.bind_some]
  by_cases hc : CanOK gs s p os
  · have l5 : bautaref16_Ands_l3 N gs s p os (0, 0) = some (nands gs : Int) := by
      unfold bautaref16_Ands_l3
      have := loop_up (s := fun v => bautaref16_Ands_l3_T N gs s p os v.1 v.2) (fun i : Nat => (((gs.take i).countP (andOf gs) : Int), (i : Int))) gs.length (nands gs : Int) (k := 0) (m := N) (by omega) (by omega) (fun i _ hi => ?_) ?_
      · exact this
      · have hg : gs.getD i g0 = gs[i] := getD_nat _ _ _ hi
        have hok := hc.2.2.2.1 i hi
        rw [hg] at hok
        have hcl : (gs.take i).countP (andOf gs) ≤ i := Nat.le_trans List.countP_le_length (by simp; omega)
        simp only [bautaref16_Ands_l3_T, run_br, run_call, run_ret, ltI_eq, decide_eq_true_eq, ref_can N gs s p os hw (by omega) (by omega) (by omega), Option.bind_some, hc, if_true, bautaref16_Ands_j5, bautaref16_Ands_j5_T, inRange_iff, toNat_nat, hg, beq_iffI, i64_succ (i := i) (by omega), i64_succ (i := (gs.take i).countP (andOf gs)) (by omega), take_snoc _ hi, List.countP_append, List.countP_singleton, andOf, sec]
        rw [if_pos (by omega), if_pos (by omega)]
        by_cases h3 : gs[i].1 = 3
        · have ht : takes gs[i].1 = 2 := by rw [h3]; decide
          have b1 := hok.2.2.2.1 (by omega)
          have b2 := hok.2.2.2.2.1 (by omega)
          have c1 : 0 ≤ gs[i].2.1 ∧ gs[i].2.1 < (gs.length : Int) := by omega
          have c2 : 0 ≤ gs[i].2.2.1 ∧ gs[i].2.2.1 < (gs.length : Int) := by omega
          simp only [if_pos h3, if_pos c1, if_pos c2, decide_eq_true h3]
          cases (gs.getD gs[i].2.1.toNat (0, 0, 0, 0, false)).2.2.2.2 <;> cases (gs.getD gs[i].2.2.1.toNat (0, 0, 0, 0, false)).2.2.2.2 <;> simp
        · rw [if_neg h3]
          simp [h3]
      · simp [bautaref16_Ands_l3_T, nands]
    simp [hc, l5]
  · have : bautaref16_Ands_l3 N gs s p os (0, 0) = some 0 := by
      unfold bautaref16_Ands_l3
      refine loop_stop (by omega) ?_
      simp only [bautaref16_Ands_l3_T, run_br, run_call, run_ret, ref_can N gs s p os hw (by omega) (by omega) (by omega), Option.bind_some, hc]
      simp
    simp [hc, this]
end Go.Proofs.YtoahoagfkpfhnaaV
