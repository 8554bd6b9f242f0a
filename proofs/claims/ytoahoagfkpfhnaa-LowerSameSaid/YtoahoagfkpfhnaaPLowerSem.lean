/- What the made gates' words are, which of them are secret, how many ands there are. -/
import Derived.Test.YtoahoagfkpfhnaaPLowerX
import Derived.Test.YtoahoagfkpfhnaaPWords
namespace Go.Proofs.YtoahoagfkpfhnaaV
set_option linter.unusedVariables false
set_option linter.unusedSimpArgs false

/-! ### Sums of words, by what is made and what is handed on -/
section adder
variable (g p : Nat → Bool)
/-- What is carried out of place i, by the m places up to it. -/
def cw : Nat → Nat → Bool
  | 0, _ => false
  | m + 1, 0 => g 0
  | m + 1, i + 1 => g (i + 1) || (p (i + 1) && cw m i)
/-- The m places up to i all hand on. -/
def qw : Nat → Nat → Bool
  | 0, _ => true
  | m + 1, 0 => p 0 && decide (m = 0)
  | m + 1, i + 1 => p (i + 1) && qw m i

theorem cw_add : ∀ (m n i : Nat), 0 < m → cw g p (m + n) i = (cw g p m i || (qw p m i && (decide (m ≤ i) && cw g p n (i - m))))
  | 0, n, i, h => absurd h (by omega)
  | 1, n, 0, _ => by rw [Nat.add_comm]; simp [cw, qw]
  | 1, n, i + 1, _ => by rw [Nat.add_comm]; simp [cw, qw]
  | m + 2, n, 0, _ => by rw [show m + 2 + n = m + 1 + n + 1 by omega]; simp [cw, qw]
  | m + 2, n, i + 1, _ => by
    rw [show m + 2 + n = m + 1 + n + 1 by omega]
    simp only [cw, qw]
    rw [cw_add (m + 1) n i (by omega)]
    rw [show i + 1 - (m + 2) = i - (m + 1) by omega]
    have : decide (m + 2 ≤ i + 1) = decide (m + 1 ≤ i) := by rw [decide_eq_decide]; omega
    rw [this]
    cases g (i + 1) <;> cases p (i + 1) <;> simp

theorem qw_add : ∀ (m n i : Nat), 0 < m → 0 < n → qw p (m + n) i = (qw p m i && (decide (m ≤ i) && qw p n (i - m)))
  | 0, n, i, h, _ => absurd h (by omega)
  | 1, n, 0, _, hn => by rw [Nat.add_comm]; simp [qw]; omega
  | 1, n, i + 1, _, _ => by rw [Nat.add_comm]; simp [qw]
  | m + 2, n, 0, _, _ => by rw [show m + 2 + n = m + 1 + n + 1 by omega]; simp [qw]
  | m + 2, n, i + 1, _, hn => by
    rw [show m + 2 + n = m + 1 + n + 1 by omega]
    simp only [qw]
    rw [qw_add (m + 1) n i (by omega) hn]
    rw [show i + 1 - (m + 2) = i - (m + 1) by omega]
    have : decide (m + 2 ≤ i + 1) = decide (m + 1 ≤ i) := by rw [decide_eq_decide]; omega
    rw [this]
    cases p (i + 1) <;> simp

/-- What is made in m places and what is handed on by them are never both. -/
theorem cw_qw (h : ∀ i, ¬ (g i = true ∧ p i = true)) : ∀ (m i : Nat), ¬ (cw g p m i = true ∧ qw p m i = true)
  | 0, i => by simp [cw]
  | m + 1, 0 => by
    have := h 0
    simp only [cw, qw, Bool.and_eq_true]
    intro h1
    exact this ⟨h1.1, h1.2.1⟩
  | m + 1, i + 1 => by
    have := h (i + 1)
    have ih := cw_qw h m i
    simp only [cw, qw, Bool.and_eq_true, Bool.or_eq_true]
    rintro ⟨h1 | h1, h2⟩
    · exact this ⟨h1, h2.1⟩
    · exact ih ⟨h1.2, h2.2⟩

theorem cw_enough : ∀ (m i : Nat), i < m → cw g p m i = cw g p (i + 1) i
  | 0, i, h => absurd h (by omega)
  | m + 1, 0, _ => by simp [cw]
  | m + 1, i + 1, h => by
    simp only [cw]
    rw [cw_enough m i (by omega)]
end adder

theorem carry_is (a b : BitVec 32) : ∀ i, BitVec.carry (i + 1) a b false = cw (fun i => a.getLsbD i && b.getLsbD i) (fun i => a.getLsbD i ^^ b.getLsbD i) (i + 1) i
  | 0 => by
    rw [BitVec.carry_succ, BitVec.carry_zero]
    simp only [cw, Bool.atLeastTwo]
    cases a.getLsbD 0 <;> cases b.getLsbD 0 <;> rfl
  | i + 1 => by
    rw [BitVec.carry_succ, carry_is a b i]
    simp only [cw, Bool.atLeastTwo]
    cases a.getLsbD (i + 1) <;> cases b.getLsbD (i + 1) <;> simp

/-- Words that tell of m places. -/
def Gen (a b : BitVec 32) (m : Nat) (u : BitVec 32) : Prop := ∀ i, i < 32 → u.getLsbD i = cw (fun i => a.getLsbD i && b.getLsbD i) (fun i => a.getLsbD i ^^ b.getLsbD i) m i
def Pro (a b : BitVec 32) (m : Nat) (v : BitVec 32) : Prop := ∀ i, i < 32 → v.getLsbD i = qw (fun i => a.getLsbD i ^^ b.getLsbD i) m i

theorem gen_one (a b : BitVec 32) : Gen a b 1 (a &&& b) := by
  intro i hi
  rw [BitVec.getLsbD_and]
  cases i <;> simp [cw]
theorem pro_one (a b : BitVec 32) : Pro a b 1 (a ^^^ b) := by
  intro i hi
  rw [BitVec.getLsbD_xor]
  cases i <;> simp [qw]

theorem gen_step {a b u v : BitVec 32} {m : Nat} (hm : 0 < m) (hu : Gen a b m u) (hv : Pro a b m v) : Gen a b (m + m) (u ^^^ (v &&& (u <<< m))) := by
  intro i hi
  have hx := cw_qw (fun i => a.getLsbD i && b.getLsbD i) (fun i => a.getLsbD i ^^ b.getLsbD i) (by intro i; cases a.getLsbD i <;> cases b.getLsbD i <;> simp) m i
  rw [cw_add _ _ m m i hm, BitVec.getLsbD_xor, BitVec.getLsbD_and, BitVec.getLsbD_shiftLeft, hu i hi, hv i hi]
  by_cases hmi : m ≤ i
  · rw [hu (i - m) (by omega)]
    simp only [hi, hmi, decide_true, Bool.true_and, show ¬ i < m by omega, decide_false, Bool.not_false]
    generalize cw _ _ m i = x at *
    generalize qw _ m i = y at *
    cases x <;> cases y <;> simp at hx ⊢
  · simp [hmi, show i < m by omega]

theorem pro_step {a b v : BitVec 32} {m : Nat} (hm : 0 < m) (hv : Pro a b m v) : Pro a b (m + m) (v &&& (v <<< m)) := by
  intro i hi
  rw [qw_add _ m m i hm hm, BitVec.getLsbD_and, BitVec.getLsbD_shiftLeft, hv i hi]
  by_cases hmi : m ≤ i
  · rw [hv (i - m) (by omega)]
    simp [hi, hmi, show ¬ i < m by omega]
  · simp [hmi, show i < m by omega]

theorem gen_sum {a b u : BitVec 32} (hu : Gen a b 32 u) : (a ^^^ b) ^^^ (u <<< 1) = a + b := by
  apply BitVec.eq_of_getLsbD_eq
  intro i hi
  rw [BitVec.getLsbD_add hi, BitVec.getLsbD_xor, BitVec.getLsbD_xor, BitVec.getLsbD_shiftLeft]
  cases i with
  | zero => simp [BitVec.carry_zero]
  | succ i =>
    rw [carry_is, show i + 1 - 1 = i by omega, hu i (by omega), cw_enough _ _ 32 i (by omega)]
    simp [hi, Bool.xor_assoc]

/-! ### Gates' handles -/
section sem
variable (S P : List Int)

def Wat (gs : List Gate) (x : Int) : BitVec 32 := (wv S P gs).getD x.toNat 0

/-- What is known of a gate: it is there; is it secret; its word. -/
def Hd (gs : List Gate) (x : Int) (t : Bool) (w : BitVec 32) : Prop := In gs x ∧ sec gs x = t ∧ Wat S P gs x = w

theorem sec_old {gs : List Gate} {x : Int} (h : In gs x) (g : Gate) : sec (gs ++ [g]) x = sec gs x := by
  unfold In at h
  simp only [sec]
  rw [getD_left _ _ _ (by omega)]
theorem Wat_old {gs : List Gate} {x : Int} (h : In gs x) (g : Gate) : Wat S P (gs ++ [g]) x = Wat S P gs x := by
  unfold In at h
  simp only [Wat, wv_snoc, wstep]
  rw [getD_left _ _ _ (by rw [wv_len]; omega)]

variable {S P}
theorem Hd.old {gs : List Gate} {x : Int} {t : Bool} {w : BitVec 32} (h : Hd S P gs x t w) (k a b n : Int) : Hd S P (app gs k a b n).2 x t w :=
  ⟨app_old h.1 k a b n, (sec_old h.1 _).trans h.2.1, (Wat_old S P h.1 _).trans h.2.2⟩

theorem Hd.new (gs : List Gate) (k a b n : Int) : Hd S P (app gs k a b n).2 (app gs k a b n).1 (secOf gs k a b) (ev S P k (Wat S P gs a) (Wat S P gs b) n) := by
  refine ⟨app_new gs k a b n, ?_, ?_⟩
  · simp only [sec, app, toNat_nat]
    rw [getD_last _ _ _ rfl]
  · simp only [Wat, app, toNat_nat, wv_snoc, wstep]
    rw [getD_last _ _ _ (by rw [wv_len])]
end sem

theorem secOf_old {gs : List Gate} {k a b : Int} (h1 : 1 ≤ takes k → In gs a) (h2 : 2 ≤ takes k → In gs b) (g : Gate) : secOf (gs ++ [g]) k a b = secOf gs k a b := by
  simp only [secOf]
  rcases takes_cases k with ht | ht | ht
  · simp [ht]
  · simp [ht, sec_old (h1 (by omega))]
  · simp [ht, sec_old (h1 (by omega)), sec_old (h2 (by omega))]

theorem AllOK.app {gs : List Gate} {s p k a b n : Int} (h : AllOK gs s p) (hk : 0 ≤ k ∧ k ≤ 11) (h0 : takes k < 1 → a = 0) (h0' : takes k < 2 → b = 0) (h1 : 1 ≤ takes k → In gs a) (h2 : 2 ≤ takes k → In gs b) (hn : NumOK s p k n) : AllOK (app gs k a b n).2 s p := by
  intro i hi
  rw [app_len] at hi
  rcases Nat.lt_or_ge i gs.length with hlt | hge
  · have hok := h i hlt
    have e : (Proofs.YtoahoagfkpfhnaaV.app gs k a b n).2.getD i g0 = gs.getD i g0 := getD_left _ _ _ hlt
    rw [e]
    generalize gs.getD i g0 = g at *
    refine ⟨hok.1, hok.2.1, hok.2.2.1, hok.2.2.2.1, hok.2.2.2.2.1, hok.2.2.2.2.2.1, ?_⟩
    rw [hok.2.2.2.2.2.2]
    exact (secOf_old (fun h => by have := hok.2.2.2.1 h; unfold In; omega) (fun h => by have := hok.2.2.2.2.1 h; unfold In; omega) _).symm
  · obtain rfl : i = gs.length := by omega
    have e : (Proofs.YtoahoagfkpfhnaaV.app gs k a b n).2.getD gs.length g0 = (k, (a, (b, (n, secOf gs k a b)))) := getD_last _ _ _ rfl
    rw [e]
    exact ⟨hk, h0, h0', h1, h2, hn, (secOf_old h1 h2 _).symm⟩

theorem nands_app {gs : List Gate} {s p : Int} (h : AllOK gs s p) (k a b n : Int) (h1 : k = 3 → In gs a ∧ In gs b) : nands (app gs k a b n).2 = nands gs + (if k = 3 ∧ sec gs a = true ∧ sec gs b = true then 1 else 0) := by
  have hc : gs.countP (andOf (gs ++ [(k, (a, (b, (n, secOf gs k a b))))])) = gs.countP (andOf gs) := by
    apply List.countP_congr
    intro g hg
    obtain ⟨i, hi, rfl⟩ := List.getElem_of_mem hg
    have hok := h i hi
    rw [getD_nat _ _ _ hi] at hok
    simp only [andOf]
    by_cases h3 : gs[i].1 = 3
    · have ht : takes gs[i].1 = 2 := by rw [h3]; decide
      have b1 := hok.2.2.2.1 (by omega)
      have b2 := hok.2.2.2.2.1 (by omega)
      rw [sec_old ⟨b1.1, by omega⟩, sec_old ⟨b2.1, by omega⟩]
    · simp [h3]
  simp only [nands, app, List.countP_append, hc, List.countP_singleton]
  congr 1
  simp only [andOf]
  by_cases h3 : k = 3
  · obtain ⟨ha, hb⟩ := h1 h3
    simp [h3, sec_old ha, sec_old hb]
  · simp [h3]

section sem2
variable {S P : List Int} {s p : Int}

/-- One and more. -/
theorem app_and {gs : List Gate} {a b : Int} {ta tb : Bool} {wa wb : BitVec 32} (h : AllOK gs s p) (ha : Hd S P gs a ta wa) (hb : Hd S P gs b tb wb) :
    AllOK (app gs 3 a b 0).2 s p ∧ Hd S P (app gs 3 a b 0).2 (app gs 3 a b 0).1 (ta || tb) (wa &&& wb) ∧ nands (app gs 3 a b 0).2 = nands gs + (if ta = true ∧ tb = true then 1 else 0) := by
  refine ⟨h.app (by decide) (fun h => absurd h (by decide)) (fun h => absurd h (by decide)) (fun _ => ha.1) (fun _ => hb.1) (by simp [NumOK]), ?_, ?_⟩
  · have := Hd.new (S := S) (P := P) gs 3 a b 0
    rw [ha.2.2, hb.2.2] at this
    simpa [secOf, tk3, ha.2.1, hb.2.1, ev] using this
  · rw [nands_app h 3 a b 0 (fun _ => ⟨ha.1, hb.1⟩), ha.2.1, hb.2.1]
    simp
theorem app_xor {gs : List Gate} {a b : Int} {ta tb : Bool} {wa wb : BitVec 32} (h : AllOK gs s p) (ha : Hd S P gs a ta wa) (hb : Hd S P gs b tb wb) :
    AllOK (app gs 4 a b 0).2 s p ∧ Hd S P (app gs 4 a b 0).2 (app gs 4 a b 0).1 (ta || tb) (wa ^^^ wb) ∧ nands (app gs 4 a b 0).2 = nands gs := by
  refine ⟨h.app (by decide) (fun h => absurd h (by decide)) (fun h => absurd h (by decide)) (fun _ => ha.1) (fun _ => hb.1) (by simp [NumOK]), ?_, ?_⟩
  · have := Hd.new (S := S) (P := P) gs 4 a b 0
    rw [ha.2.2, hb.2.2] at this
    simpa [secOf, tk4, ha.2.1, hb.2.1, ev] using this
  · rw [nands_app h 4 a b 0 (fun h => absurd h (by decide))]
    simp
theorem app_not {gs : List Gate} {a : Int} {ta : Bool} {wa : BitVec 32} (h : AllOK gs s p) (ha : Hd S P gs a ta wa) :
    AllOK (app gs 5 a 0 0).2 s p ∧ Hd S P (app gs 5 a 0 0).2 (app gs 5 a 0 0).1 ta (~~~wa) ∧ nands (app gs 5 a 0 0).2 = nands gs := by
  refine ⟨h.app (by decide) (fun h => absurd h (by decide)) (fun _ => rfl) (fun _ => ha.1) (fun h => absurd h (by decide)) (by simp [NumOK]), ?_, ?_⟩
  · have := Hd.new (S := S) (P := P) gs 5 a 0 0
    rw [ha.2.2] at this
    simpa [secOf, tk5, ha.2.1, ev] using this
  · rw [nands_app h 5 a 0 0 (fun h => absurd h (by decide))]
    simp
theorem app_shl {gs : List Gate} {a n : Int} {ta : Bool} {wa : BitVec 32} (hn : 0 ≤ n ∧ n ≤ 31) (h : AllOK gs s p) (ha : Hd S P gs a ta wa) :
    AllOK (app gs 6 a 0 n).2 s p ∧ Hd S P (app gs 6 a 0 n).2 (app gs 6 a 0 n).1 ta (wa <<< n.toNat) ∧ nands (app gs 6 a 0 n).2 = nands gs := by
  refine ⟨h.app (by decide) (fun h => absurd h (by decide)) (fun _ => rfl) (fun _ => ha.1) (fun h => absurd h (by decide)) (by simp [NumOK]; omega), ?_, ?_⟩
  · have := Hd.new (S := S) (P := P) gs 6 a 0 n
    rw [ha.2.2] at this
    simpa [secOf, tk6, ha.2.1, ev] using this
  · rw [nands_app h 6 a 0 n (fun h => absurd h (by decide))]
    simp

theorem sstep_sem {gs : List Gate} {k g q : Int} {t : Bool} {u v : BitVec 32} (hk : 0 ≤ k ∧ k ≤ 16) (h : AllOK gs s p) (hg : Hd S P gs g t u) (hq : Hd S P gs q t v) :
    AllOK (sstep k g q gs).2.2 s p ∧ Hd S P (sstep k g q gs).2.2 (sstep k g q gs).1 t (u ^^^ (v &&& (u <<< k.toNat))) ∧ Hd S P (sstep k g q gs).2.2 (sstep k g q gs).2.1 t (if k < 16 then v &&& (v <<< k.toNat) else v) ∧
      nands (sstep k g q gs).2.2 = nands gs + (if t = true then (if k < 16 then 2 else 1) else 0) ∧ (∀ x t w, Hd S P gs x t w → Hd S P (sstep k g q gs).2.2 x t w) := by
  obtain ⟨a1, b1, c1⟩ := app_shl (n := k) (by omega) h hg
  obtain ⟨a2, b2, c2⟩ := app_and a1 (hq.old 6 g 0 k) b1
  obtain ⟨a3, b3, c3⟩ := app_xor a2 ((hg.old 6 g 0 k).old 3 q (app gs 6 g 0 k).1 0) b2
  have q3 := ((hq.old 6 g 0 k).old 3 q (app gs 6 g 0 k).1 0).old 4 g (app (app gs 6 g 0 k).2 3 q (app gs 6 g 0 k).1 0).1 0
  simp only [Bool.or_self, and_self] at b2 c2 b3
  unfold sstep
  by_cases h16 : k < 16
  · obtain ⟨a4, b4, c4⟩ := app_shl (n := k) (by omega) a3 q3
    obtain ⟨a5, b5, c5⟩ := app_and a4 (q3.old 6 q 0 k) b4
    simp only [Bool.or_self, and_self] at b5 c5
    simp only [h16, if_true]
    refine ⟨a5, (b3.old _ _ _ _).old _ _ _ _, b5, ?_, fun x t w hx => ((((hx.old _ _ _ _).old _ _ _ _).old _ _ _ _).old _ _ _ _).old _ _ _ _⟩
    rw [c5, c4, c3, c2, c1]
    cases t <;> simp
  · simp only [h16, if_false]
    refine ⟨a3, b3, q3, ?_, fun x t w hx => ((hx.old _ _ _ _).old _ _ _ _).old _ _ _ _⟩
    rw [c3, c2, c1]

theorem sum_sem {gs : List Gate} {a b : Int} {ta tb : Bool} {wa wb : BitVec 32} (h : AllOK gs s p) (ha : Hd S P gs a ta wa) (hb : Hd S P gs b tb wb) :
    AllOK (sumS a b gs).2 s p ∧ Hd S P (sumS a b gs).2 (sumS a b gs).1 (ta || tb) (wa + wb) ∧ nands (sumS a b gs).2 = nands gs + (if ta = true ∧ tb = true then 1 else 0) + (if ta = true ∨ tb = true then 9 else 0) ∧
      (∀ x t w, Hd S P gs x t w → Hd S P (sumS a b gs).2 x t w) := by
  obtain ⟨a1, b1, c1⟩ := app_xor h ha hb
  obtain ⟨a2, b2, c2⟩ := app_and a1 (ha.old 4 a b 0) (hb.old 4 a b 0)
  have p2 := b1.old 3 a b 0
  obtain ⟨k1, g1, q1, n1, e1⟩ := sstep_sem (k := 1) (by omega) a2 b2 p2
  rw [if_pos (by decide)] at q1
  obtain ⟨k2, g2, q2, n2, e2⟩ := sstep_sem (k := 2) (by omega) k1 g1 q1
  rw [if_pos (by decide)] at q2
  obtain ⟨k3, g3, q3, n3, e3⟩ := sstep_sem (k := 4) (by omega) k2 g2 q2
  rw [if_pos (by decide)] at q3
  obtain ⟨k4, g4, q4, n4, e4⟩ := sstep_sem (k := 8) (by omega) k3 g3 q3
  rw [if_pos (by decide)] at q4
  obtain ⟨k5, g5, q5, n5, e5⟩ := sstep_sem (k := 16) (by omega) k4 g4 q4
  have G := gen_step (by omega) (gen_step (by omega) (gen_step (by omega) (gen_step (by omega) (gen_step (by omega) (gen_one wa wb) (pro_one wa wb)) (pro_step (by omega) (pro_one wa wb))) (pro_step (by omega) (pro_step (by omega) (pro_one wa wb)))) (pro_step (by omega) (pro_step (by omega) (pro_step (by omega) (pro_one wa wb))))) (pro_step (by omega) (pro_step (by omega) (pro_step (by omega) (pro_step (by omega) (pro_one wa wb)))))
  have sum := gen_sum G
  obtain ⟨a6, b6, c6⟩ := app_shl (n := 1) (by omega) k5 g5
  obtain ⟨a7, b7, c7⟩ := app_xor a6 ((e5 _ _ _ (e4 _ _ _ (e3 _ _ _ (e2 _ _ _ (e1 _ _ _ p2))))).old _ _ _ _) b6
  refine ⟨a7, ?_, ?_, fun x t w hx => ((e5 _ _ _ (e4 _ _ _ (e3 _ _ _ (e2 _ _ _ (e1 _ _ _ ((hx.old _ _ _ _).old _ _ _ _)))))).old _ _ _ _).old _ _ _ _⟩
  · simp only [Bool.or_self] at b7
    have e : (wa ^^^ wb) ^^^ _ = wa + wb := sum
    rw [← e]
    exact b7
  · have hn : nands (sumS a b gs).2 = _ := c7.trans (c6.trans n5)
    rw [hn, n4, n3, n2, n1, c2, c1]
    cases ta <;> cases tb <;> simp
end sem2
end Go.Proofs.YtoahoagfkpfhnaaV
