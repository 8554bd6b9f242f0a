/- Which polynomial has any values, and that it has them. -/
import Derived.Test.YtkcimijkcmoonaaDoorPAnfF
namespace Go.Proofs.YtkcimijkcmoonaaDoorV
set_option linter.unusedVariables false
set_option linter.unusedSimpArgs false

theorem bit_tab : ∀ i, i < 256 → ∀ k, k < 8 → ((i &&& 2 ^ k) == 0) = !i.testBit k := by decide +kernel
theorem sub_tab : ∀ i, i < 256 → ∀ k, k < 8 → i.testBit k = true → 2 ^ k ≤ i ∧ i - 2 ^ k = i ^^^ 2 ^ k := by decide +kernel
def pow2B (n : Nat) : Bool := (List.range 9).any fun K => n == 2 ^ K
theorem pow_tab : ∀ n, n < 257 → ((n &&& (n - 1)) == 0) = (n == 0 || pow2B n) := by decide +kernel
theorem pow2B_iff {n : Nat} : pow2B n = true ↔ ∃ K, K ≤ 8 ∧ n = 2 ^ K := by
  unfold pow2B
  rw [List.any_eq_true]
  constructor
  · rintro ⟨K, h1, h2⟩; exact ⟨K, by simp at h1; omega, by simpa using h2⟩
  · rintro ⟨K, h1, h2⟩; exact ⟨K, by simp; omega, by simpa using h2⟩

theorem dbl {p : Nat} (h : p ≤ 1000000) : IntKind.i64.wrap ((p : Int) * 2) = ((p * 2 : Nat) : Int) := by rw [i64_in (by omega)]; omega
theorem mns {i p : Nat} (h : p ≤ i) (hi : i ≤ 1000000) : IntKind.i64.wrap ((i : Int) - (p : Int)) = ((i - p : Nat) : Int) := by rw [i64_in (by omega)]; omega
theorem pow_inj {a b : Nat} (h : 2 ^ a = 2 ^ b) : a = b := by
  rcases Nat.lt_trichotomy a b with h1 | h1 | h1
  · have := Nat.pow_lt_pow_right (a := 2) (by decide) h1; omega
  · exact h1
  · have := Nat.pow_lt_pow_right (a := 2) (by decide) h1; omega
theorem andN {x M : Nat} (hx : x < 9223372036854775808) (hM : M < 9223372036854775808) : IntKind.i64.wrap (((BitVec.ofInt 64 (x : Int)) &&& (BitVec.ofInt 64 (M : Int))).toNat : Int) = ((x &&& M : Nat) : Int) := by
  rw [BitVec.ofInt_natCast, BitVec.ofInt_natCast, BitVec.toNat_and, BitVec.toNat_ofNat, BitVec.toNat_ofNat, Nat.mod_eq_of_lt (by omega), Nat.mod_eq_of_lt (by omega)]
  have := @Nat.and_le_left x M
  exact i64_in (by omega)
theorem orN {x M : Nat} (hx : x < 9223372036854775808) (hM : M < 9223372036854775808) : IntKind.i64.wrap (((BitVec.ofInt 64 (x : Int)) ||| (BitVec.ofInt 64 (M : Int))).toNat : Int) = ((x ||| M : Nat) : Int) := by
  rw [BitVec.ofInt_natCast, BitVec.ofInt_natCast, BitVec.toNat_or, BitVec.toNat_ofNat, BitVec.toNat_ofNat, Nat.mod_eq_of_lt (by omega), Nat.mod_eq_of_lt (by omega)]
  have : x ||| M < 2 ^ 63 := Nat.or_lt_two_pow (by omega) (by omega)
  exact i64_in (by omega)

/-- A table as a function. -/
def tabF (t : List Bool) (i : Nat) : Bool := t.getD i false
/-- The places of which a function is true. -/
def outs (g : Nat → Bool) (n : Nat) : List Int := ((List.range n).filter g).map fun (i : Nat) => (i : Int)
theorem outs_succ (g : Nat → Bool) (n : Nat) : outs g (n + 1) = outs g n ++ if g n then [(n : Int)] else [] := by
  unfold outs
  rw [List.range_succ, List.filter_append, List.map_append]
  cases h : g n <;> simp [List.filter, h]
theorem outs_len (g : Nat → Bool) (n : Nat) : (outs g n).length ≤ n := by
  unfold outs
  have := List.length_filter_le g (List.range n)
  simpa using this
theorem outs_congr {g h : Nat → Bool} {n : Nat} (e : ∀ i, i < n → g i = h i) : outs g n = outs h n := by
  unfold outs
  congr 1
  exact List.filter_congr fun x hx => e x (by simpa using hx)

section
variable (N : Nat) (hN : 400 < N) {t : List Bool} {n : Nat} (ht : t.length = n) (hn : n ≤ 256)
include hN ht hn

omit hN in
theorem clone2_eq : slices_Clone_2 N t = some t := by
  have h : ltI ((0 + (t.length : Int)) * 1) 140737488355328 = true := by rw [ltI_iff]; omega
  simp only [slices_Clone_2, slices_Clone_2_T, run_br, run_or, run_ret, h, if_true]
  cases t with
  | nil => exact anyR_self _
  | cons x l => rfl

omit ht in
theorem Of_l9 {K k : Nat} (hK : n = 2 ^ K) (hK8 : K ≤ 8) (hk : k < K) {r : List Bool} (hr : r.length = n) (g : Nat → Bool) (hg : ∀ j, j < n → r.getD j false = g j) :
    OS (anf_Of_l9 N ((2 ^ k : Nat) : Int) n (0, r)) (fun y => y.length = n ∧ ∀ j, j < n → y.getD j false = Th k g j) := by
  have hk2 : 2 ^ k ≤ 128 := by
    have : 2 ^ k ≤ 2 ^ 7 := Nat.pow_le_pow_right (by decide) (by omega)
    exact this
  refine loop_os (fun v : Int × List Bool => ∃ i : Nat, v.1 = i ∧ i ≤ n ∧ v.2.length = n ∧ (∀ j, j < i → v.2.getD j false = Th k g j) ∧ ∀ j, i ≤ j → j < n → v.2.getD j false = g j) (fun v => n - v.1.toNat) _ ⟨0, rfl, Nat.zero_le _, hr, fun j h => by omega, fun j _ h => hg j h⟩ (by (try dsimp only); omega) ?_
  rintro ⟨i', s⟩ ⟨i, h1, h2, h3, h4, h5⟩
  dsimp only at h1 h2 h3 h4 h5 ⊢
  subst h1
  unfold anf_Of_l9_T
  have e : IntKind.i64.wrap ((i : Int) + 1) = ((i + 1 : Nat) : Int) := i64_succ (by omega)
  refine TS.br (fun hc => ?_) (fun hc => ?_)
  · rw [ltI_iff] at hc
    have e1 := andN (x := i) (M := 2 ^ k) (by omega) (by omega)
    have b := bit_tab i (by omega) k (by omega)
    dsimp only
    rw [e1, e]
    have hbit : (((i &&& 2 ^ k : Nat) : Int) != 0) = i.testBit k := by
      cases h : i.testBit k with
      | true =>
        rw [h] at b
        have : (i &&& 2 ^ k) ≠ 0 := by simpa using b
        rw [bne_iff_ne]; omega
      | false =>
        rw [h] at b
        have : (i &&& 2 ^ k) = 0 := by simpa using b
        rw [this]; rfl
    rw [hbit]
    refine TS.br (fun hb => ?_) (fun hb => ?_)
    · obtain ⟨s1, s2⟩ := sub_tab i (by omega) k (by omega) hb
      have e2 : IntKind.i64.wrap ((i : Int) - ((2 ^ k : Nat) : Int)) = ((i ^^^ 2 ^ k : Nat) : Int) := by rw [← s2]; exact mns s1 (by omega)
      rw [e2]
      have hlt : i ^^^ 2 ^ k < i := by
        have : 0 < 2 ^ k := Nat.two_pow_pos k
        omega
      refine TS.brT (by rw [inRange_iff]; omega) (TS.brT (by rw [inRange_iff]; omega) (TS.brT (by rw [inRange_iff]; omega) ?_))
      rw [toNat_nat, toNat_nat, h5 i (Nat.le_refl _) (by omega), h4 _ hlt]
      have hT : (g i != Th k g (i ^^^ 2 ^ k)) = Th k g i := by
        unfold Th
        have : (i ^^^ 2 ^ k).testBit k = false := by rw [test_flip, hb]; simp
        rw [this, hb]; simp
      have hT' : (!(g i == Th k g (i ^^^ 2 ^ k))) = Th k g i := by rw [← hT]; rfl
      rw [hT']
      refine TS.ret ⟨⟨i + 1, rfl, by omega, by simp [h3], fun j hj => ?_, fun j hj hj' => ?_⟩, by (try dsimp only); omega⟩
      · dsimp only
        by_cases e : j = i
        · subst e; rw [getD_set_eq _ _ _ (by omega)]
        · rw [getD_set_ne _ _ _ (fun h => e h.symm)]; exact h4 j (by omega)
      · dsimp only
        rw [getD_set_ne _ _ _ (by omega)]; exact h5 j (by omega) hj'
    · refine TS.ret ⟨⟨i + 1, rfl, by omega, h3, fun j hj => ?_, fun j hj hj' => h5 j (by omega) hj'⟩, by (try dsimp only); omega⟩
      by_cases e : j = i
      · subst e
        dsimp only
        rw [h5 j (Nat.le_refl _) (by omega)]
        unfold Th; rw [hb]; rfl
      · exact h4 j (by omega)
  · have hc' : ¬ (i : Int) < n := by rw [← ltI_iff, hc]; simp
    exact TS.ret ⟨h3, fun j hj => h4 j (by omega)⟩

theorem Of_j4 {K : Nat} (hK : n = 2 ^ K) (hK8 : K ≤ 8) : OS (anf_Of_j4 N t n) (fun y => y = outs (Fh K (tabF t)) n) := by
  unfold anf_Of_j4
  refine OS.of ?_
  unfold anf_Of_j4_T
  refine TS.eqv (clone2_eq N ht hn) ?_
  have loop1 : OS (anf_Of_l6 N n (1, t)) (fun y => y.length = n ∧ ∀ j, j < n → y.getD j false = Fh K (tabF t) j) := by
    refine loop_os (fun v : Int × List Bool => ∃ k : Nat, k ≤ K ∧ v.1 = ((2 ^ k : Nat) : Int) ∧ v.2.length = n ∧ ∀ j, j < n → v.2.getD j false = Fh k (tabF t) j) (fun v => 257 - v.1.toNat) _ ⟨0, Nat.zero_le _, rfl, ht, fun j _ => rfl⟩ (by (try dsimp only); omega) ?_
    rintro ⟨s, r⟩ ⟨k, h1, h2, h3, h4⟩
    dsimp only at h1 h2 h3 h4 ⊢
    subst h2
    unfold anf_Of_l6_T
    have hk2 : 2 ^ k ≤ n := by rw [hK]; exact Nat.pow_le_pow_right (by decide) h1
    have e : IntKind.i64.wrap (((2 ^ k : Nat) : Int) * 2) = ((2 ^ (k + 1) : Nat) : Int) := by rw [Nat.pow_succ]; exact dbl (by omega)
    refine TS.br (fun hc => ?_) (fun hc => ?_)
    · rw [ltI_iff] at hc
      have hkK : k < K := by
        rcases Nat.lt_or_ge k K with h | h
        · exact h
        · have : k = K := by omega
          subst this; omega
      dsimp only
      rw [h3]
      refine TS.call (Of_l9 N hN hn hK hK8 hkK h3 _ h4) (fun y hy => ?_)
      rw [e]
      refine TS.ret ⟨⟨k + 1, hkK, rfl, hy.1, hy.2⟩, ?_⟩
      have : 0 < 2 ^ k := Nat.two_pow_pos k
      dsimp only
      rw [Nat.pow_succ]
      omega
    · have hc' : ¬ ((2 ^ k : Nat) : Int) < n := by rw [← ltI_iff, hc]; simp
      have : k = K := by
        rcases Nat.lt_or_ge k K with h | h
        · have : 2 ^ k < 2 ^ K := Nat.pow_lt_pow_right (by decide) h
          omega
        · omega
      subst this
      exact TS.ret ⟨h3, h4⟩
  refine TS.call loop1 (fun y hy => ?_)
  obtain ⟨y1, y2⟩ := hy
  dsimp only
  rw [y1]
  have loop2 : OS (anf_Of_l16 N n y (0, [])) (fun r => r = outs (Fh K (tabF t)) n) := by
    refine loop_os (fun v : Int × List Int => ∃ i : Nat, v.1 = i ∧ i ≤ n ∧ v.2 = outs (Fh K (tabF t)) i) (fun v => n - v.1.toNat) _ ⟨0, rfl, Nat.zero_le _, rfl⟩ (by (try dsimp only); omega) ?_
    rintro ⟨i', s⟩ ⟨i, h1, h2, h3⟩
    dsimp only at h1 h2 h3 ⊢
    subst h1; subst h3
    unfold anf_Of_l16_T
    have e : IntKind.i64.wrap ((i : Int) + 1) = ((i + 1 : Nat) : Int) := i64_succ (by omega)
    have e2 : IntKind.u64.wrap (i : Int) = i := u64_in (by omega)
    have hlen := outs_len (Fh K (tabF t)) i
    refine TS.br (fun hc => ?_) (fun hc => ?_)
    · rw [ltI_iff] at hc
      refine TS.brT (by rw [inRange_iff]; omega) ?_
      rw [toNat_nat, y2 i (by omega), e, e2]
      refine TS.br (fun hb => ?_) (fun hb => ?_)
      · refine TS.brT (by rw [ltI_iff]; omega) (TS.ret ⟨⟨i + 1, rfl, by omega, ?_⟩, by (try dsimp only); omega⟩)
        rw [outs_succ, hb]; rfl
      · refine TS.ret ⟨⟨i + 1, rfl, by omega, ?_⟩, by (try dsimp only); omega⟩
        rw [outs_succ, hb]; simp
    · have hc' : ¬ (i : Int) < n := by rw [← ltI_iff, hc]; simp
      obtain rfl : i = n := by omega
      exact TS.ret rfl
  exact TS.call loop2 (fun r hr => TS.ret hr)

/-- What Of comes to, of few values. -/
theorem Of_ok : OS (anf_Of N t) (fun y => (∃ K, K ≤ 8 ∧ n = 2 ^ K ∧ y = (0, outs (Fh K (tabF t)) n)) ∨ (pow2B n = false ∧ y = (1, []))) := by
  unfold anf_Of
  refine OS.of ?_
  unfold anf_Of_T
  refine TS.br (fun hc => ?_) (fun hc => ?_)
  · rw [ltI_iff] at hc
    have : n = 0 := by omega
    subst this
    exact TS.ret (.inr ⟨by decide, rfl⟩)
  · have hc' : ¬ (t.length : Int) < 1 := by rw [← ltI_iff, hc]; simp
    refine TS.brF (by rw [ltI_eq, decide_eq_false_iff_not]; omega) ?_
    have e1 : IntKind.i64.wrap ((t.length : Int) - 1) = ((n - 1 : Nat) : Int) := by rw [i64_in (by omega)]; omega
    have e2 := andN (x := n) (M := n - 1) (by omega) (by omega)
    have b := pow_tab n (by omega)
    have n0 : (n == 0) = false := by simp; omega
    rw [n0, Bool.false_or] at b
    dsimp only
    rw [e1, ht, e2]
    cases hp : pow2B n with
    | true =>
      rw [hp] at b
      have : (n &&& (n - 1)) = 0 := by simpa using b
      obtain ⟨K, hK8, hK⟩ := pow2B_iff.1 hp
      refine TS.brF (by rw [this]; rfl) (TS.call (Of_j4 N hN ht hn hK hK8) (fun y hy => TS.ret (.inl ⟨K, hK8, hK, by rw [hy]⟩)))
    | false =>
      rw [hp] at b
      have : (n &&& (n - 1)) ≠ 0 := by simpa using b
      exact TS.brT (by rw [bne_iff_ne]; omega) (TS.ret (.inr ⟨rfl, rfl⟩))

theorem refOf_l3 : OS (bautaref34_Of_l3 N t (1, false, 0)) (fun y => y = pow2B n) := by
  have hpow : ∀ i : Nat, i ≤ 13 → (2 ^ i : Nat) ≤ 8192 := fun i hi => Nat.pow_le_pow_right (n := 2) (by decide) hi
  refine loop_os (fun v : Int × Bool × Int => ∃ i : Nat, i ≤ 13 ∧ v.2.2 = i ∧ v.1 = ((2 ^ i : Nat) : Int) ∧ (v.2.1 = true ↔ ∃ K, K < i ∧ n = 2 ^ K)) (fun v => 13 - v.2.2.toNat) _ ⟨0, by omega, rfl, rfl, by simp⟩ (by (try dsimp only); omega) ?_
  rintro ⟨p, b, i'⟩ ⟨i, h1, h2, h3, h4⟩
  dsimp only at h1 h2 h3 h4 ⊢
  subst h2; subst h3
  unfold bautaref34_Of_l3_T
  have hp := hpow i h1
  have e : IntKind.i64.wrap ((i : Int) + 1) = ((i + 1 : Nat) : Int) := i64_succ (by omega)
  have e2 : IntKind.i64.wrap (((2 ^ i : Nat) : Int) * 2) = ((2 ^ (i + 1) : Nat) : Int) := by rw [Nat.pow_succ]; exact dbl (by omega)
  refine TS.br (fun hc => ?_) (fun hc => ?_)
  · rw [ltI_iff] at hc
    rw [e, e2]
    refine TS.br (fun hb => ?_) (fun hb => ?_)
    · refine TS.ret ⟨⟨i + 1, by omega, rfl, rfl, ⟨fun _ => ?_, fun _ => rfl⟩⟩, by (try dsimp only); omega⟩
      obtain ⟨K, k1, k2⟩ := h4.1 hb
      exact ⟨K, by omega, k2⟩
    · refine TS.ret ⟨⟨i + 1, by omega, rfl, rfl, ?_⟩, by (try dsimp only); omega⟩
      dsimp only
      rw [beq_iff_eq, ht]
      constructor
      · intro h; exact ⟨i, by omega, by omega⟩
      · rintro ⟨K, k1, k2⟩
        by_cases e : K = i
        · subst e; omega
        · have := h4.2 ⟨K, by omega, k2⟩
          rw [this] at hb; cases hb
  · have hc' : ¬ (i : Int) < 13 := by rw [← ltI_iff, hc]; simp
    obtain rfl : i = 13 := by omega
    refine TS.ret ?_
    show b = _
    rw [Bool.eq_iff_iff, h4, pow2B_iff]
    constructor
    · rintro ⟨K, k1, k2⟩
      refine ⟨K, ?_, k2⟩
      rcases Nat.lt_or_ge 8 K with h | h
      · have : 2 ^ 9 ≤ 2 ^ K := Nat.pow_le_pow_right (by decide) h
        omega
      · exact h
    · rintro ⟨K, k1, k2⟩; exact ⟨K, by omega, k2⟩

theorem refOf_ok : OS (bautaref34_Of N t) (fun y => (∃ K, K ≤ 8 ∧ n = 2 ^ K ∧ y = (0, outs (Fh K (tabF t)) n)) ∨ (pow2B n = false ∧ y = (1, []))) := by
  unfold bautaref34_Of
  refine OS.of ?_
  unfold bautaref34_Of_T
  refine TS.call (refOf_l3 N hN ht hn) (fun b hb => TS.br (fun hc => TS.ret (.inr ⟨by rw [← hb]; simpa using hc, rfl⟩)) (fun hc => ?_))
  obtain ⟨K, hK8, hK⟩ := pow2B_iff.1 (by rw [← hb]; simpa using hc : pow2B n = true)
  have inner : ∀ i : Nat, i < n → OS (bautaref34_Of_l15 N t i (false, 0)) (fun y => y = Fh K (tabF t) i) := by
    intro i hi
    let q : Nat → Bool := fun x => (x ||| i == i) && tabF t x
    have hfin : Fh K (tabF t) i = decide ((List.range (i + 1)).countP q % 2 = 1) := by
      rw [Fh_all _ (by omega), ← hK]
      have e : n = (i + 1) + (n - (i + 1)) := by omega
      rw [e, List.range_add, List.countP_append]
      have z : ((List.range (n - (i + 1))).map (i + 1 + ·)).countP (fun x => (x ||| i == i) && tabF t x) = 0 := by
        rw [List.countP_eq_zero]
        intro x hx
        simp only [List.mem_map, List.mem_range] at hx
        obtain ⟨a, _, rfl⟩ := hx
        have : ¬ (i + 1 + a) ||| i = i := fun h => by have := @Nat.left_le_or (i + 1 + a) i; omega
        simp [this]
      rw [z, Nat.add_zero]
    rw [hfin]
    refine loop_os (fun v : Bool × Int => ∃ k : Nat, v.2 = k ∧ k ≤ i + 1 ∧ v.1 = decide ((List.range k).countP q % 2 = 1)) (fun v => i + 1 - v.2.toNat) _ ⟨0, rfl, by omega, rfl⟩ (by (try dsimp only); omega) ?_
    rintro ⟨c, k'⟩ ⟨k, h1, h2, h3⟩
    dsimp only at h1 h2 h3 ⊢
    subst h1; subst h3
    unfold bautaref34_Of_l15_T
    have e : IntKind.i64.wrap ((k : Int) + 1) = ((k + 1 : Nat) : Int) := i64_succ (by omega)
    have step : (List.range (k + 1)).countP q = (List.range k).countP q + if q k then 1 else 0 := by
      rw [List.range_succ, List.countP_append, List.countP_cons, List.countP_nil, Nat.zero_add]
    refine TS.br (fun hc => ?_) (fun hc => ?_)
    · rw [leI_iff] at hc
      have e1 := orN (x := k) (M := i) (by omega) (by omega)
      dsimp only
      rw [e1, e]
      have hq : q k = ((((k ||| i : Nat) : Int) == (i : Int)) && tabF t k) := by
        show ((k ||| i == i) && tabF t k) = _
        congr 1
        rw [Bool.eq_iff_iff, beq_iff_eq, beq_iff_eq]; omega
      refine TS.br (fun hb => ?_) (fun hb => ?_)
      · refine TS.brT (by rw [inRange_iff]; omega) ?_
        rw [toNat_nat]
        rw [hb, Bool.true_and] at hq
        refine TS.br (fun hb2 => ?_) (fun hb2 => ?_)
        · refine TS.ret ⟨⟨k + 1, rfl, by omega, ?_⟩, by (try dsimp only); omega⟩
          have : q k = true := hq.trans hb2
          rw [step, this, if_pos rfl]
          by_cases c : (List.range k).countP q % 2 = 1 <;> simp [c] <;> omega
        · refine TS.ret ⟨⟨k + 1, rfl, by omega, ?_⟩, by (try dsimp only); omega⟩
          have : q k = false := hq.trans hb2
          rw [step, this]; simp
      · refine TS.ret ⟨⟨k + 1, rfl, by omega, ?_⟩, by (try dsimp only); omega⟩
        rw [hb, Bool.false_and] at hq
        rw [step, hq]; simp
    · have hc' : ¬ (k : Int) ≤ i := by rw [← leI_iff, hc]; simp
      obtain rfl : k = i + 1 := by omega
      exact TS.ret rfl
  have hloop : OS (bautaref34_Of_l11 N t (0, [])) (fun r => r = outs (Fh K (tabF t)) n) := by
    refine loop_os (fun v : Int × List Int => ∃ i : Nat, v.1 = i ∧ i ≤ n ∧ v.2 = outs (Fh K (tabF t)) i) (fun v => n - v.1.toNat) _ ⟨0, rfl, Nat.zero_le _, rfl⟩ (by (try dsimp only); omega) ?_
    rintro ⟨i', s⟩ ⟨i, h1, h2, h3⟩
    dsimp only at h1 h2 h3 ⊢
    subst h1; subst h3
    unfold bautaref34_Of_l11_T
    have e : IntKind.i64.wrap ((i : Int) + 1) = ((i + 1 : Nat) : Int) := i64_succ (by omega)
    have e2 : IntKind.u64.wrap (i : Int) = i := u64_in (by omega)
    have hlen := outs_len (Fh K (tabF t)) i
    refine TS.br (fun hc => ?_) (fun hc => ?_)
    · rw [ltI_iff] at hc
      rw [e, e2]
      refine TS.call (inner i (by omega)) (fun y hy => TS.br (fun hb => ?_) (fun hb => ?_))
      · refine TS.brT (by rw [ltI_iff]; omega) (TS.ret ⟨⟨i + 1, rfl, by omega, ?_⟩, by (try dsimp only); omega⟩)
        rw [outs_succ, ← hy, hb]; rfl
      · refine TS.ret ⟨⟨i + 1, rfl, by omega, ?_⟩, by (try dsimp only); omega⟩
        rw [outs_succ, ← hy, hb]; simp
    · have hc' : ¬ (i : Int) < t.length := by rw [← ltI_iff, hc]; simp
      obtain rfl : i = n := by omega
      exact TS.ret rfl
  exact TS.call hloop (fun r hr => TS.ret (.inl ⟨K, hK8, hK, by rw [hr]⟩))
end

theorem sub_nat {y x : Nat} (hy : y < 256) (hx : x < 256) : sub y x = (y ||| x == x) := by
  rw [Bool.eq_iff_iff, beq_iff_eq, sub_iff (by constructor <;> omega) (by constructor <;> omega), or_iff]
  simp only [Int.toNat_natCast]
  constructor
  · intro h j hj
    rcases Nat.lt_or_ge j 64 with h1 | h1
    · exact h j h1 hj
    · have : y.testBit j = false := Nat.testBit_lt_two_pow (Nat.lt_of_lt_of_le (by omega : y < 2 ^ 8) (Nat.pow_le_pow_right (by decide) (by omega)))
      rw [this] at hj; cases hj
  · intro h j _ hj; exact h j hj

/-- The polynomial has the values. -/
theorem ev_outs (f : Nat → Bool) {K x : Nat} (hK : K ≤ 8) (hx : x < 2 ^ K) : ev (outs (Fh K f) (2 ^ K)) x = f x := by
  have hK2 : 2 ^ K ≤ 256 := Nat.pow_le_pow_right (n := 2) (by decide) hK
  have h := Fh_all (Fh K f) hx
  rw [Fh_Fh] at h
  rw [h]
  unfold ev outs
  rw [List.countP_map, List.countP_filter]
  congr 3
  refine List.countP_congr fun y hy => ?_
  have hy : y < 2 ^ K := by simpa using hy
  show ((sub (y : Int) (x : Int) && Fh K f y) = true) ↔ _
  rw [sub_nat (by omega) (by omega)]

/-- The law: which polynomial has any values, and that it has them. -/
theorem anfTables_law' {N : Nat} (hN : 20000 < N) (t : List Bool) (htl : (t.length : Int) < 140737488355328) : bautalaw34_AnfTables N t = some true := by
  obtain ⟨m, rfl⟩ : ∃ m, N = m + 200 := ⟨N - 200, by omega⟩
  have lives := anf_lives m
  have small : t.length ≤ 256 → OS (bautalaw34_AnfTables_j3 (m + 200) t) (fun y => y = true) := fun hn => by
    unfold bautalaw34_AnfTables_j3
    refine OS.of ?_
    unfold bautalaw34_AnfTables_j3_T
    refine TS.brT (by rw [ltI_iff]; omega) (TS.call (Of_ok (m + 200) (by omega) rfl hn) (fun y hy => TS.brF (by rw [ltI_eq, decide_eq_false_iff_not]; omega) (TS.call (refOf_ok (m + 200) (by omega) rfl hn) (fun z hz => ?_))))
    have e : y = z := by
      rcases hy with ⟨K, k1, k2, rfl⟩ | ⟨k1, rfl⟩ <;> rcases hz with ⟨K', k1', k2', rfl⟩ | ⟨k1', rfl⟩
      · have : K = K' := pow_inj (k2.symm.trans k2')
        subst this; rfl
      · rw [pow2B_iff.2 ⟨K, k1, k2⟩] at k1'; cases k1'
      · rw [pow2B_iff.2 ⟨K', k1', k2'⟩] at k1; cases k1
      · rfl
    subst e
    have hyl : y.2.length ≤ 256 := by
      rcases hy with ⟨K, k1, k2, rfl⟩ | ⟨k1, rfl⟩
      · exact Nat.le_trans (outs_len _ _) hn
      · simp
    refine TS.call (same_ok' (by omega) (by omega)) (fun s hs => TS.brF (by rw [hs.2 rfl]; rfl) (TS.brF (by simp) ?_))
    have h9 : OS (bautalaw34_AnfTables_j9 (m + 200) t y.1 y.2) (fun y => y = true) := by
      unfold bautalaw34_AnfTables_j9
      refine OS.of ?_
      unfold bautalaw34_AnfTables_j9_T
      have hloop : OS (bautalaw34_AnfTables_l10 (m + 200) t y.1 y.2 0) (EP (fun _ => False) (fun _ => True)) := by
        refine loop_os (fun v : Int => ∃ i : Nat, v = i ∧ i ≤ t.length) (fun v => t.length - v.toNat) _ ⟨0, rfl, Nat.zero_le _⟩ (by (try dsimp only); omega) ?_
        rintro v ⟨i, rfl, h2⟩
        unfold bautalaw34_AnfTables_l10_T
        have e : IntKind.i64.wrap ((i : Int) + 1) = ((i + 1 : Nat) : Int) := i64_succ (by omega)
        have e2 : IntKind.u64.wrap (i : Int) = i := u64_in (by omega)
        refine TS.br (fun hc => ?_) (fun _ => TS.ret trivial)
        rw [ltI_iff] at hc
        refine TS.br (fun h0 => ?_) (fun _ => TS.ret trivial)
        rcases hy with ⟨K, k1, k2, rfl⟩ | ⟨k1, rfl⟩
        · have hj : OS (bautalaw34_AnfTables_j12 (m + 200) t i (outs (Fh K (tabF t)) t.length)) (EP (fun _ => False) (fun y => y = ((i + 1 : Nat) : Int))) := by
            unfold bautalaw34_AnfTables_j12
            refine OS.of ?_
            unfold bautalaw34_AnfTables_j12_T
            dsimp only
            rw [e2, e]
            have hl := outs_len (Fh K (tabF t)) t.length
            refine TS.eqv (eval_eq (m + 200) (n := 256) (by decide) (by omega) (by omega) (i : Int)) (TS.brT (by rw [inRange_iff]; omega) ?_)
            have he : ev (outs (Fh K (tabF t)) t.length) (i : Int) = tabF t i := by
              rw [k2]; exact ev_outs _ k1 (by omega)
            rw [he, toNat_nat]
            refine TS.brF ?_ (TS.ret rfl)
            show (!(tabF t i == tabF t i)) = false
            simp
          exact TS.callS hj.ep (fun _ h => h.elim) (fun y hy => TS.ret ⟨⟨i + 1, hy, by omega⟩, by rw [hy]; (try dsimp only); omega⟩)
        · exact absurd h0 (by decide)
      exact TS.callS hloop.ep (fun _ h => h.elim) (fun _ _ => TS.eqv lives (TS.ret rfl))
    exact TS.call h9 (fun y hy => TS.ret hy)
  have key : TS (bautalaw34_AnfTables_T (m + 200) t) (fun y => y = true) := by
    unfold bautalaw34_AnfTables_T
    refine TS.br (fun hc => ?_) (fun hc => ?_)
    · refine TS.br (fun _ => TS.eqv lives (TS.ret rfl)) (fun hc2 => ?_)
      have hc2' : ¬ (t.length : Int) ≤ 4096 := by rw [← leI_iff, hc2]; simp
      have hbig : OS (bautalaw34_AnfTables_j3 (m + 200) t) (fun y => y = true) := by
        unfold bautalaw34_AnfTables_j3
        refine OS.of ?_
        unfold bautalaw34_AnfTables_j3_T
        have hO : anf_Of (m + 200) t = some (1, []) := by
          have c1 : ltI (t.length : Int) 1 = false := by rw [ltI_eq, decide_eq_false_iff_not]; omega
          have c2 : ltI 4096 (t.length : Int) = true := by rw [ltI_iff]; omega
          simp only [anf_Of, anf_Of_T, run_br, run_ret, c1, c2, Bool.false_eq_true, if_false, if_true]
        exact TS.brT (by rw [ltI_iff]; omega) (TS.eqv hO (TS.brT (by rw [ltI_iff]; omega) (TS.brT rfl (TS.brT rfl (TS.eqv lives (TS.ret rfl))))))
      exact TS.call hbig (fun y hy => TS.ret hy)
    · have hc' : ¬ (256 : Int) < t.length := by rw [← ltI_iff, hc]; simp
      exact TS.call (small (by omega)) (fun y hy => TS.ret hy)
  obtain ⟨y, h, rfl⟩ := key
  exact h
theorem anfTables_law (t : List Bool) (w : WF (.list .bool) t) (z : t.length * 1 < 140737488355328) : bautalaw34_AnfTables 100002 t = some true := anfTables_law' (by omega) t (by omega)
end Go.Proofs.YtkcimijkcmoonaaDoorV
