/- What circuits are: the two functions that tell it are one. -/
import Derived.Test.YtgajjcehnpaooaaGreatDoorCird
import Derived.Test.YtgajjcehnpaooaaGreatDoorWa
namespace Go.Proofs.YtgajjcehnpaooaaGreatDoorV
set_option linter.unusedVariables false
set_option linter.unusedSimpArgs false
abbrev Gate := (Int × (Int × (Int × (Int × Bool))))
abbrev GOut := (ByteArray × Int)
abbrev g0 : Gate := (0, (0, (0, (0, false))))

def takes (k : Int) : Int := if k = 3 ∨ k = 4 ∨ (9 ≤ k ∧ k ≤ 11) then 2 else if 5 ≤ k ∧ k ≤ 8 then 1 else 0

theorem ref_takes (N : Nat) (k : Int) : bautaref15_Takes N k = some (takes k) := by
  simp [bautaref15_Takes, bautaref15_Takes_T, bautaref15_Takes_j3, bautaref15_Takes_j3_T, takes]
  grind

theorem real_takes (N : Nat) (k : Int) : circ_takes N k = some (takes k) := by
  have hj : ∀ b, circ_takes_j7 N k b = some (if b = true then .inl 2 else if 5 ≤ k ∧ k ≤ 8 then .inl 1 else .inr ()) := by
    intro b
    simp [circ_takes_j7, circ_takes_j7_T]
    grind
  simp only [circ_takes, circ_takes_T, hj, run_br, run_call, Option.bind_some, takes]
  grind [run_inl, run_inr, run_ret]

/-- A gate's being secret. -/
def sec (gs : List Gate) (x : Int) : Bool := (gs.getD x.toNat g0).2.2.2.2

/-- How great the number is. -/
def NumOK (s p k n : Int) : Prop := (k = 1 → n < s) ∧ (k = 2 → n < p) ∧ (6 ≤ k ∧ k ≤ 8 → n ≤ 31) ∧ (3 ≤ k ∧ k ≤ 5 ∨ 9 ≤ k → n = 0)
instance (s p k n : Int) : Decidable (NumOK s p k n) := by unfold NumOK; infer_instance

def secOf (gs : List Gate) (k a b : Int) : Bool := decide (k = 1) || (decide (1 ≤ takes k) && sec gs a) || (decide (2 ≤ takes k) && sec gs b)

def GateOK (gs : List Gate) (s p : Int) (i : Nat) (g : Gate) : Prop :=
  (0 ≤ g.1 ∧ g.1 ≤ 11) ∧ (takes g.1 < 1 → g.2.1 = 0) ∧ (takes g.1 < 2 → g.2.2.1 = 0) ∧ (1 ≤ takes g.1 → 0 ≤ g.2.1 ∧ g.2.1 < i) ∧ (2 ≤ takes g.1 → 0 ≤ g.2.2.1 ∧ g.2.2.1 < i) ∧
    NumOK s p g.1 g.2.2.2.1 ∧ g.2.2.2.2 = secOf gs g.1 g.2.1 g.2.2.1
instance (gs : List Gate) (s p : Int) (i : Nat) (g : Gate) : Decidable (GateOK gs s p i g) := by unfold GateOK; infer_instance

/-- A gate's number is a word. -/
def Wd (g : Gate) : Prop := 0 ≤ g.2.2.2.1 ∧ g.2.2.2.1 ≤ 4294967295

theorem takes_cases (k : Int) : takes k = 0 ∨ takes k = 1 ∨ takes k = 2 := by unfold takes; split <;> (try split) <;> simp

theorem kinds {k : Int} (hk : 0 ≤ k ∧ k ≤ 11) : k = 0 ∨ k = 1 ∨ k = 2 ∨ k = 3 ∨ k = 4 ∨ k = 5 ∨ k = 6 ∨ k = 7 ∨ k = 8 ∨ k = 9 ∨ k = 10 ∨ k = 11 := by omega

theorem real_most (N : Nat) (s p k n : Int) (hs : 0 ≤ s ∧ s ≤ 1000) (hp : 0 ≤ p ∧ p ≤ 1000) (hk : 0 ≤ k ∧ k ≤ 11) (hn : 0 ≤ n ∧ n ≤ 4294967295) :
    ∃ m, circ_most N s p k = some m ∧ (n ≤ m ↔ NumOK s p k n) := by
  rcases kinds hk with rfl | rfl | rfl | rfl | rfl | rfl | rfl | rfl | rfl | rfl | rfl | rfl <;> simp (disch := omega) [circ_most, circ_most_T, i64_in, NumOK] <;> omega

theorem real_gate_l6 (N : Nat) (gs : List Gate) (i : Nat) (hi : i ≤ gs.length) (k a b : Int) (hN : 2 < N) :
    circ_gate_l6 N i a b gs k (k == 1, 0) = some (if (takes k < 1 → a = 0) ∧ (takes k < 2 → b = 0) ∧ (1 ≤ takes k → 0 ≤ a ∧ a < i) ∧ (2 ≤ takes k → 0 ≤ b ∧ b < i) then .inr (secOf gs k a b) else .inl ()) := by
  obtain ⟨n, rfl⟩ : ∃ n, N = n + 3 := ⟨N - 3, by omega⟩
  have hj : ∀ (t : Bool) (x : Int), 0 ≤ x → circ_gate_j13 (n + 3) t x (decide ((i : Int) ≤ x)) gs = some (if i ≤ x then .inl () else .inr (t || sec gs x)) := by
    intro t x hx
    simp only [circ_gate_j13, circ_gate_j13_T, run_br, run_ret, inRange_iff, sec, decide_eq_true_eq]
    split
    · rfl
    · cases t <;> simp
      omega
  have hj' : ∀ (t : Bool) (x : Int), circ_gate_j13 (n + 3) t x true gs = some (.inl ()) := fun t x => rfl
  have e1 : IntKind.i64.wrap (0 + 1) = 1 := rfl
  have e2 : IntKind.i64.wrap (1 + 1) = 2 := rfl
  simp only [circ_gate_l6, loopN, circ_gate_l6_T, real_takes, run_br, run_call, Option.bind_some, run_ret, e1, e2]
  rcases takes_cases k with ht | ht | ht <;> simp [ht, inRange_iff, hj', secOf]
  · grind
  · by_cases h1 : a < 0
    · simp [h1]; try omega
    · simp only [h1, hj _ a (by omega)]
      by_cases h2 : (i : Int) ≤ a
      · simp [h2]; try omega
      · simp [h2]
        by_cases h3 : b = 0 <;> simp [h3] <;> grind
  · by_cases h1 : a < 0
    · simp [h1]; try omega
    · simp only [h1, hj _ a (by omega)]
      by_cases h2 : (i : Int) ≤ a
      · simp [h2]; try omega
      · simp [h2]
        by_cases h3 : b < 0
        · simp [h3]; try omega
        · simp only [h3, hj _ b (by omega)]
          by_cases h4 : (i : Int) ≤ b <;> simp [h4] <;> grind

theorem real_gate (N : Nat) (gs : List Gate) (s p : Int) (i : Nat) (hi : i < gs.length) (hs : 0 ≤ s ∧ s ≤ 1000) (hp : 0 ≤ p ∧ p ≤ 1000) (hw : Wd gs[i]) (hN : 2 < N) :
    circ_gate N gs s p i = some (decide (GateOK gs s p i gs[i])) := by
  obtain ⟨hw1, hw2⟩ := hw
  have hg : gs.getD i g0 = gs[i] := getD_nat _ _ _ hi
  simp only [circ_gate, circ_gate_T, run_br, run_call, run_ret, inRange_iff, toNat_nat, hg, i64_in (x := gs[i].2.2.2.1) (by omega), ltI_eq, leI_eq, decide_eq_true_eq, GateOK]
  rw [if_pos (by omega)]
  by_cases h1 : gs[i].1 < 0
  · simp [h1]; grind
  by_cases h2 : 12 ≤ gs[i].1
  · simp [h1, h2]; grind
  obtain ⟨m, hm, hmk⟩ := real_most N s p gs[i].1 gs[i].2.2.2.1 hs hp (by omega) ⟨hw1, hw2⟩
  simp only [h1, h2, if_false, hm, Option.bind_some]
  by_cases h3 : m < gs[i].2.2.2.1
  · have h4 : ¬ NumOK s p gs[i].1 gs[i].2.2.2.1 := fun h => by have := hmk.2 h; omega
    simp [h3, h4]
  · have h4 : NumOK s p gs[i].1 gs[i].2.2.2.1 := hmk.1 (by omega)
    simp only [h3, if_false, circ_gate_j4, circ_gate_j4_T, run_call, real_gate_l6 N gs i (by omega) _ _ _ hN, Option.bind_some]
    split
    · rename_i h5
      simp [h4, h5]
      grind
    · rename_i h5
      simp [h4, h5]
      grind

def CanOK (gs : List Gate) (s p : Int) (os : List GOut) : Prop :=
  (0 ≤ s ∧ s ≤ 1000) ∧ (0 ≤ p ∧ p ≤ 1000) ∧ gs.length ≤ 8000 ∧ (∀ i, i < gs.length → GateOK gs s p i (gs.getD i g0)) ∧ (∀ j, j < os.length → 0 ≤ (os.getD j (ByteArray.empty, 0)).2 ∧ (os.getD j (ByteArray.empty, 0)).2 < gs.length)
instance (gs : List Gate) (s p : Int) (os : List GOut) : Decidable (CanOK gs s p os) := by unfold CanOK; infer_instance

/-- All numbers are words. -/
def Wds (gs : List Gate) : Prop := ∀ i, i < gs.length → Wd (gs.getD i g0)

theorem real_can (N : Nat) (gs : List Gate) (s p : Int) (os : List GOut) (hw : Wds gs) (hN : 8000 < N) (hN' : os.length < N) (ho : os.length < 9223372036854775807) :
    circ_can N gs s p os = some (decide (CanOK gs s p os)) := by
  simp only [circ_can, circ_can_T, run_br, run_call, run_ret, ltI_eq, decide_eq_true_eq]
  by_cases h1 : s < 0
  · have : ¬ CanOK gs s p os := fun h => by have := h.1; omega
    simp [h1, this]
  by_cases h2 : 1000 < s
  · have : ¬ CanOK gs s p os := fun h => by have := h.1; omega
    simp [h1, h2, this]
  by_cases h3 : p < 0
  · have : ¬ CanOK gs s p os := fun h => by have := h.2.1; omega
    simp [h1, h2, h3, this]
  by_cases h4 : 1000 < p
  · have : ¬ CanOK gs s p os := fun h => by have := h.2.1; omega
    simp [h1, h2, h3, h4, this]
  by_cases h5 : (8000 : Int) < gs.length
  · have : ¬ CanOK gs s p os := fun h => by have := h.2.2.1; omega
    simp [h1, h2, h3, h4, h5, this]
  have l1 : circ_can_l4 N gs.length gs s p 0 = some (if ∀ i, i < gs.length → GateOK gs s p i (gs.getD i g0) then .inr () else .inl ()) := by
    unfold circ_can_l4
    refine loop_all (m := N) (fun i => GateOK gs s p i (gs.getD i g0)) gs.length (Sum.inl ()) (Sum.inr ()) (by omega) (fun i hi => ?_) ?_
    · have hg : gs.getD i g0 = gs[i] := getD_nat _ _ _ hi
      have hwi := hw i hi
      rw [hg] at hwi
      simp only [circ_can_l4_T, run_br, run_call, real_gate N gs s p i hi (by omega) (by omega) hwi (by omega), Option.bind_some, ltI_eq, run_ret, hg, i64_in (x := (i : Int) + 1) (by omega)]
      by_cases hk : GateOK gs s p i gs[i] <;> simp [hi, hk]
    · simp [circ_can_l4_T]
  have l2 : circ_can_l10 N os os.length gs 0 = some (if ∀ j, j < os.length → 0 ≤ (os.getD j (ByteArray.empty, 0)).2 ∧ (os.getD j (ByteArray.empty, 0)).2 < gs.length then .inr () else .inl ()) := by
    unfold circ_can_l10
    refine loop_all (m := N) (fun j => 0 ≤ (os.getD j (ByteArray.empty, 0)).2 ∧ (os.getD j (ByteArray.empty, 0)).2 < gs.length) os.length (Sum.inl ()) (Sum.inr ()) (by omega) (fun i hi => ?_) ?_
    · simp only [circ_can_l10_T, run_br, ltI_eq, run_ret, i64_in (x := (i : Int) + 1) (by omega), inRange_iff, toNat_nat, leI_eq, decide_eq_true_eq]
      generalize (os.getD i (ByteArray.empty, 0)).2 = x
      rw [if_pos (by omega), if_pos (by omega)]
      by_cases hk : x < 0
      · have : ¬ (0 ≤ x) := by omega
        simp [hk, this]
      · by_cases hk2 : (gs.length : Int) ≤ x
        · have : ¬ (x < gs.length) := by omega
          simp [hk, hk2, this]
        · simp [hk, hk2]
          try grind
    · simp [circ_can_l10_T]
  simp only [h1, h2, h3, h4, h5, if_false, circ_can_j3, circ_can_j3_T, run_call, l1, Option.bind_some, run_ret]
  by_cases h6 : ∀ i, i < gs.length → GateOK gs s p i (gs.getD i g0)
  · rw [if_pos h6]
    simp only [run_inr, run_call, l2, Option.bind_some]
    by_cases h7 : ∀ j, j < os.length → 0 ≤ (os.getD j (ByteArray.empty, 0)).2 ∧ (os.getD j (ByteArray.empty, 0)).2 < gs.length
    · have : CanOK gs s p os := ⟨by omega, by omega, by omega, h6, h7⟩
      rw [if_pos h7]
      simp [this]
    · have : ¬ CanOK gs s p os := fun h => h7 h.2.2.2.2
      rw [if_neg h7]
      simp [this]
  · have : ¬ CanOK gs s p os := fun h => h6 h.2.2.2.1
    rw [if_neg h6]
    simp [this]

theorem real_Can (N : Nat) (gs : List Gate) (s p : Int) (os : List GOut) (hw : Wds gs) (hN : 8000 < N) (hN' : os.length < N) (ho : os.length < 9223372036854775807) :
    circ_Can N gs s p os = some (decide (CanOK gs s p os)) := by
  simp only [circ_Can, circ_Can_T, run_call, real_can N gs s p os hw hN hN' ho, Option.bind_some, run_ret]

theorem ref_j12 (N : Nat) (gs : List Gate) (i : Nat) (hi : i ≤ gs.length) (k a b : Int) (c : Bool) (h1 : 1 ≤ takes k → 0 ≤ a ∧ a < i) (h2 : 2 ≤ takes k → 0 ≤ b ∧ b < i) :
    bautaref15_Can_j12 N (takes k) gs k a b c = some (if c = secOf gs k a b then .inr () else .inl ()) := by
  simp only [bautaref15_Can_j12, bautaref15_Can_j12_T, run_br, run_ret, inRange_iff, ltI_eq, beq_iff_eq, decide_eq_true_eq, secOf, sec]
  rcases takes_cases k with ht | ht | ht <;> simp only [ht] at h1 h2 ⊢ <;> simp <;> grind

theorem ref_j10 (N : Nat) (gs : List Gate) (s p : Int) (i : Nat) (hi : i ≤ gs.length) (k a b n : Int) (c : Bool) (hk : 0 ≤ k ∧ k ≤ 11) (hn : 0 ≤ n ∧ n ≤ 4294967295) (h1 : 1 ≤ takes k → 0 ≤ a ∧ a < i) (h2 : 2 ≤ takes k → 0 ≤ b ∧ b < i) :
    bautaref15_Can_j10 N (takes k) gs s p k a b n c = some (if NumOK s p k n ∧ c = secOf gs k a b then .inr () else .inl ()) := by
  simp only [bautaref15_Can_j10, bautaref15_Can_j10_T, run_call, ref_j12 N gs i hi k a b c h1 h2, Option.bind_some, i64_in (x := n) (by omega)]
  by_cases hz : c = secOf gs k a b
  · simp only [hz, if_true, run_inr, run_ret, and_true]
    rcases kinds hk with rfl | rfl | rfl | rfl | rfl | rfl | rfl | rfl | rfl | rfl | rfl | rfl <;> simp [NumOK] <;> split <;> simp_all <;> omega
  · simp only [hz, if_false, run_inl, run_ret, and_false]
    rcases kinds hk with rfl | rfl | rfl | rfl | rfl | rfl | rfl | rfl | rfl | rfl | rfl | rfl <;> simp

theorem ref_gate (N : Nat) (gs : List Gate) (s p : Int) (i : Nat) (hi : i < gs.length) (hl : gs.length ≤ 8000) (hw : Wd gs[i]) :
    (bautaref15_Can_l4_T N gs s p i).run some = some (if GateOK gs s p i gs[i] then .inl ((i + 1 : Nat) : Int) else .inr (.inl ())) := by
  obtain ⟨hw1, hw2⟩ := hw
  have hg : gs.getD i g0 = gs[i] := getD_nat _ _ _ hi
  simp only [bautaref15_Can_l4_T, run_call, ref_takes, Option.bind_some, inRange_iff, toNat_nat, hg, run_br, ltI_eq, decide_eq_true_eq, run_ret, i64_in (x := (i : Int) + 1) (by omega), beq_iffI, bne_iffI, leI_eq]
  rw [if_pos (by omega), if_pos (by omega)]
  generalize gs[i] = g at *
  obtain ⟨k, a, b, n, c⟩ := g
  simp only at hw1 hw2 ⊢
  by_cases h1 : k < 0
  · have : ¬ GateOK gs s p i (k, a, b, n, c) := fun h => by have := h.1.1; simp only at this; omega
    simp [h1, this]
  by_cases h2 : 11 < k
  · have : ¬ GateOK gs s p i (k, a, b, n, c) := fun h => by have := h.1.2; simp only at this; omega
    simp [h1, h2, this]
  by_cases hS : (takes k < 1 → a = 0) ∧ (takes k < 2 → b = 0) ∧ (1 ≤ takes k → 0 ≤ a ∧ a < i) ∧ (2 ≤ takes k → 0 ≤ b ∧ b < i)
  · have hj := ref_j10 N gs s p i (by omega) k a b n c (by omega) ⟨hw1, hw2⟩ hS.2.2.1 hS.2.2.2
    have hG : GateOK gs s p i (k, a, b, n, c) ↔ (NumOK s p k n ∧ c = secOf gs k a b) := ⟨fun h => h.2.2.2.2.2, fun h => ⟨by simp only; omega, hS.1, hS.2.1, hS.2.2.1, hS.2.2.2, h⟩⟩
    simp only [hj, hG, h1, h2, if_false, Option.bind_some]
    obtain ⟨s1, s2, s3, s4⟩ := hS
    by_cases hz : NumOK s p k n ∧ c = secOf gs k a b
    · simp only [hz, and_self, if_true, run_inr, run_ret]
      rcases takes_cases k with ht | ht | ht <;> simp only [ht] at s1 s2 s3 s4 ⊢ <;> simp <;> grind
    · simp only [hz, if_false, run_inl, run_ret]
      rcases takes_cases k with ht | ht | ht <;> simp only [ht] at s1 s2 s3 s4 ⊢ <;> simp <;> grind
  · have hG : ¬ GateOK gs s p i (k, a, b, n, c) := fun h => hS ⟨h.2.1, h.2.2.1, h.2.2.2.1, h.2.2.2.2.1⟩
    simp only [hG, h1, h2, if_false]
    rcases takes_cases k with ht | ht | ht <;> simp only [ht] at hS ⊢ <;> simp at hS ⊢ <;> grind

theorem ref_can (N : Nat) (gs : List Gate) (s p : Int) (os : List GOut) (hw : Wds gs) (hN : 8000 < N) (hN' : os.length < N) (ho : os.length < 9223372036854775807) :
    bautaref15_Can N gs s p os = some (decide (CanOK gs s p os)) := by
  simp only [bautaref15_Can, bautaref15_Can_T, run_br, run_call, run_ret, ltI_eq, decide_eq_true_eq]
  by_cases h1 : s < 0
  · have : ¬ CanOK gs s p os := fun h => by have := h.1; omega
    simp [h1, this]
  by_cases h2 : 1000 < s
  · have : ¬ CanOK gs s p os := fun h => by have := h.1; omega
    simp [h1, h2, this]
  by_cases h3 : p < 0
  · have : ¬ CanOK gs s p os := fun h => by have := h.2.1; omega
    simp [h1, h2, h3, this]
  by_cases h4 : 1000 < p
  · have : ¬ CanOK gs s p os := fun h => by have := h.2.1; omega
    simp [h1, h2, h3, h4, this]
  by_cases h5 : (8000 : Int) < gs.length
  · have : ¬ CanOK gs s p os := fun h => by have := h.2.2.1; omega
    simp [h1, h2, h3, h4, h5, this]
  have l1 : bautaref15_Can_l4 N gs s p 0 = some (if ∀ i, i < gs.length → GateOK gs s p i (gs.getD i g0) then .inr () else .inl ()) := by
    unfold bautaref15_Can_l4
    refine loop_all (m := N) (fun i => GateOK gs s p i (gs.getD i g0)) gs.length (Sum.inl ()) (Sum.inr ()) (by omega) (fun i hi => ?_) ?_
    · have hg : gs.getD i g0 = gs[i] := getD_nat _ _ _ hi
      have hwi := hw i hi
      rw [hg] at hwi ⊢
      exact ref_gate N gs s p i hi (by omega) hwi
    · simp [bautaref15_Can_l4_T]
  have l2 : bautaref15_Can_l16 N gs os 0 = some (if ∀ j, j < os.length → 0 ≤ (os.getD j (ByteArray.empty, 0)).2 ∧ (os.getD j (ByteArray.empty, 0)).2 < gs.length then .inr () else .inl ()) := by
    unfold bautaref15_Can_l16
    refine loop_all (m := N) (fun j => 0 ≤ (os.getD j (ByteArray.empty, 0)).2 ∧ (os.getD j (ByteArray.empty, 0)).2 < gs.length) os.length (Sum.inl ()) (Sum.inr ()) (by omega) (fun i hi => ?_) ?_
    · simp only [bautaref15_Can_l16_T, run_br, ltI_eq, run_ret, i64_in (x := (i : Int) + 1) (by omega), inRange_iff, toNat_nat, leI_eq, decide_eq_true_eq]
      generalize (os.getD i (ByteArray.empty, 0)).2 = x
      rw [if_pos (by omega), if_pos (by omega)]
      by_cases hk : x < 0
      · have : ¬ (0 ≤ x) := by omega
        simp [hk, this]
      · by_cases hk2 : (gs.length : Int) ≤ x
        · have : ¬ (x < gs.length) := by omega
          simp [hk, hk2, this]
          try omega
        · simp [hk, hk2]
          try grind
    · simp [bautaref15_Can_l16_T]
  simp only [h1, h2, h3, h4, h5, if_false, bautaref15_Can_j3, bautaref15_Can_j3_T, run_call, l1, Option.bind_some, run_ret]
  by_cases h6 : ∀ i, i < gs.length → GateOK gs s p i (gs.getD i g0)
  · rw [if_pos h6]
    simp only [run_inr, run_call, l2, Option.bind_some]
    by_cases h7 : ∀ j, j < os.length → 0 ≤ (os.getD j (ByteArray.empty, 0)).2 ∧ (os.getD j (ByteArray.empty, 0)).2 < gs.length
    · have : CanOK gs s p os := ⟨by omega, by omega, by omega, h6, h7⟩
      rw [if_pos h7]
      simp [this]
    · have : ¬ CanOK gs s p os := fun h => h7 h.2.2.2.2
      rw [if_neg h7]
      simp [this]
  · have : ¬ CanOK gs s p os := fun h => h6 h.2.2.2.1
    rw [if_neg h6]
    simp [this]
end Go.Proofs.YtgajjcehnpaooaaGreatDoorV
