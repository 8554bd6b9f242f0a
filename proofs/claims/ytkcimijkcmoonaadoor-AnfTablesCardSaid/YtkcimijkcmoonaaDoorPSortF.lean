/- Sorting: the whole. -/
import Derived.Test.YtkcimijkcmoonaaDoorPSortE
namespace Go.Proofs.YtkcimijkcmoonaaDoorV
set_option linter.unusedVariables false
set_option linter.unusedSimpArgs false

/-! ### How many bits a number has -/
def len8tab : ByteArray := ⟨#[0, 1, 2, 2, 3, 3, 3, 3, 4, 4, 4, 4, 4, 4, 4, 4, 5, 5, 5, 5, 5, 5, 5, 5, 5, 5, 5, 5, 5, 5, 5, 5, 6, 6, 6, 6, 6, 6, 6, 6, 6, 6, 6, 6, 6, 6, 6, 6, 6, 6, 6, 6, 6, 6, 6, 6, 6, 6, 6, 6, 6, 6, 6, 6, 7, 7, 7, 7, 7, 7, 7, 7, 7, 7, 7, 7, 7, 7, 7, 7, 7, 7, 7, 7, 7, 7, 7, 7, 7, 7, 7, 7, 7, 7, 7, 7, 7, 7, 7, 7, 7, 7, 7, 7, 7, 7, 7, 7, 7, 7, 7, 7, 7, 7, 7, 7, 7, 7, 7, 7, 7, 7, 7, 7, 7, 7, 7, 7, 8, 8, 8, 8, 8, 8, 8, 8, 8, 8, 8, 8, 8, 8, 8, 8, 8, 8, 8, 8, 8, 8, 8, 8, 8, 8, 8, 8, 8, 8, 8, 8, 8, 8, 8, 8, 8, 8, 8, 8, 8, 8, 8, 8, 8, 8, 8, 8, 8, 8, 8, 8, 8, 8, 8, 8, 8, 8, 8, 8, 8, 8, 8, 8, 8, 8, 8, 8, 8, 8, 8, 8, 8, 8, 8, 8, 8, 8, 8, 8, 8, 8, 8, 8, 8, 8, 8, 8, 8, 8, 8, 8, 8, 8, 8, 8, 8, 8, 8, 8, 8, 8, 8, 8, 8, 8, 8, 8, 8, 8, 8, 8, 8, 8, 8, 8, 8, 8, 8, 8, 8, 8, 8, 8, 8, 8, 8, 8]⟩
theorem tab8 : ∀ x : Nat, x < 256 → 0 ≤ bAt len8tab x ∧ bAt len8tab x ≤ 8 ∧ (1 ≤ x → 2 ^ (bAt len8tab x).toNat ≤ 2 * x) := by decide +kernel
theorem shr_eq {x : Int} {c : Int} (hx : 0 ≤ x) (hc : 0 ≤ c) : x.fdiv c = x / c := Int.fdiv_eq_ediv_of_nonneg x hc

theorem len_j7 (N : Nat) {x t : Int} (h0 : 0 ≤ x) (h1 : x < 65536) (ht : 0 ≤ t) (ht' : t ≤ 100) : OS (bits_Len64_j7 N x t) (fun r => ∃ k : Nat, r = t + k ∧ k ≤ 16 ∧ (1 ≤ x → (2 ^ k : Nat) ≤ 2 * x.toNat)) := by
  unfold bits_Len64_j7
  refine OS.of ?_
  unfold bits_Len64_j7_T
  refine TS.br (fun hc => ?_) (fun hc => ?_)
  · rw [leI_iff] at hc
    have e : x.fdiv (2 ^ 8) = x / 256 := shr_eq h0 (by decide)
    have e2 : IntKind.u8.wrap (x / 256) = x / 256 := u8_in (by omega)
    dsimp only
    rw [e, e2]
    obtain ⟨g1, g2, g3⟩ := tab8 (x / 256).toNat (by omega)
    refine TS.brT (by rw [inRange_iff]; omega) (TS.ret ⟨8 + (bAt len8tab (x / 256).toNat).toNat, ?_, by omega, fun _ => ?_⟩)
    · show IntKind.i64.wrap (IntKind.i64.wrap (t + 8) + IntKind.i64.wrap (bAt len8tab (x / 256).toNat)) = _
      simp (disch := omega) only [i64_in]
      omega
    · have := g3 (by omega)
      rw [Nat.pow_add]
      omega
  · have hc' : ¬ 256 ≤ x := by rw [← leI_iff, hc]; simp
    have e2 : IntKind.u8.wrap x = x := u8_in (by omega)
    dsimp only
    rw [e2]
    obtain ⟨g1, g2, g3⟩ := tab8 x.toNat (by omega)
    refine TS.brT (by rw [inRange_iff]; omega) (TS.ret ⟨(bAt len8tab x.toNat).toNat, ?_, by omega, fun _ => g3 (by omega)⟩)
    show IntKind.i64.wrap (t + IntKind.i64.wrap (bAt len8tab x.toNat)) = _
    simp (disch := omega) only [i64_in]
    omega
theorem len_j4 (N : Nat) {x t : Int} (h0 : 0 ≤ x) (h1 : x < 4294967296) (ht : 0 ≤ t) (ht' : t ≤ 50) : OS (bits_Len64_j4 N x t) (fun r => ∃ k : Nat, r = t + k ∧ k ≤ 32 ∧ (1 ≤ x → (2 ^ k : Nat) ≤ 2 * x.toNat)) := by
  unfold bits_Len64_j4
  refine OS.of ?_
  unfold bits_Len64_j4_T
  refine TS.br (fun hc => ?_) (fun hc => ?_)
  · rw [leI_iff] at hc
    have e : x.fdiv (2 ^ 16) = x / 65536 := shr_eq h0 (by decide)
    have e2 : IntKind.i64.wrap (t + 16) = t + 16 := i64_in (by omega)
    dsimp only
    rw [e, e2]
    refine TS.call (len_j7 N (by omega) (by omega) (by omega) (by omega)) (fun y hy => TS.ret ?_)
    obtain ⟨k, hk, hk2, hk3⟩ := hy
    refine ⟨16 + k, by omega, by omega, fun _ => ?_⟩
    have := hk3 (by omega)
    rw [Nat.pow_add]
    omega
  · have hc' : ¬ 65536 ≤ x := by rw [← leI_iff, hc]; simp
    refine TS.call (len_j7 N (by omega) (by omega) (by omega) (by omega)) (fun y hy => TS.ret ?_)
    obtain ⟨k, hk, hk2, hk3⟩ := hy
    exact ⟨k, hk, by omega, hk3⟩
theorem len_ok (N : Nat) {x : Int} (h0 : 0 ≤ x) (h1 : x < 140737488355328) : OS (bits_Len N x) (fun r => 0 ≤ r ∧ r ≤ 64 ∧ (1 ≤ x → (2 ^ r.toNat : Nat) ≤ 2 * x.toNat)) := by
  unfold bits_Len
  refine OS.of ?_
  unfold bits_Len_T
  have h64 : OS (bits_Len64 N x) (fun r => 0 ≤ r ∧ r ≤ 64 ∧ (1 ≤ x → (2 ^ r.toNat : Nat) ≤ 2 * x.toNat)) := by
    unfold bits_Len64
    refine OS.of ?_
    unfold bits_Len64_T
    refine TS.br (fun hc => ?_) (fun hc => ?_)
    · rw [leI_iff] at hc
      have e : x.fdiv (2 ^ 32) = x / 4294967296 := shr_eq h0 (by decide)
      dsimp only
      rw [e]
      refine TS.call (len_j4 N (by omega) (by omega) (by omega) (by omega)) (fun y hy => TS.ret ?_)
      obtain ⟨k, hk, hk2, hk3⟩ := hy
      refine ⟨by omega, by omega, fun _ => ?_⟩
      have := hk3 (by omega)
      have e : y.toNat = 32 + k := by omega
      rw [e, Nat.pow_add]
      omega
    · have hc' : ¬ 4294967296 ≤ x := by rw [← leI_iff, hc]; simp
      refine TS.call (len_j4 N (by omega) (by omega) (by omega) (by omega)) (fun y hy => TS.ret ?_)
      obtain ⟨k, hk, hk2, hk3⟩ := hy
      have e : y.toNat = k := by omega
      exact ⟨by omega, by omega, fun h => by rw [e]; exact hk3 h⟩
  exact TS.call h64 (fun y hy => TS.ret hy)

theorem bv_and_le (x y : Int) : ((BitVec.ofInt 64 x) &&& (BitVec.ofInt 64 y)).toNat ≤ (BitVec.ofInt 64 y).toNat := by
  rw [BitVec.toNat_and]; exact Nat.and_le_right
theorem bv_small {y : Int} (h : 0 ≤ y) (h' : y < 18446744073709551616) : ((BitVec.ofInt 64 y).toNat : Int) = y := by
  rw [BitVec.toNat_ofInt]
  have : ((2 ^ 64 : Nat) : Int) = 18446744073709551616 := rfl
  omega

section
variable (N : Nat) {n : Nat} (hn : (n : Int) < 140737488355328) (hN : n + 100 < N) {a b : Int} (ha : 0 ≤ a) (hb : b ≤ n)
include hn hN ha hb

/-! ### Patterns broken -/
omit hN hb ha in
theorem pow_ok {v : Int} (h8 : 8 ≤ v) (hv : v ≤ n) : OS (slices_nextPowerOfTwo N v) (fun m => 1 ≤ m ∧ m ≤ 2 * v) := by
  unfold slices_nextPowerOfTwo
  refine OS.of ?_
  unfold slices_nextPowerOfTwo_T
  have e : IntKind.u64.wrap v = v := u64_in (by omega)
  dsimp only
  rw [e]
  refine TS.call (len_ok N (by omega) (by omega)) (fun y hy => ?_)
  obtain ⟨g1, g2, g3⟩ := hy
  have hp := g3 (by omega)
  refine TS.brT (by rw [ltI_eq]; simp; omega) (TS.ret ?_)
  have e2 : min y.toNat 64 = y.toNat := by omega
  rw [e2, Int.one_mul]
  have e3 : ((2 : Int) ^ y.toNat) = ((2 ^ y.toNat : Nat) : Int) := by simp
  have e4 : 0 < 2 ^ y.toNat := Nat.two_pow_pos _
  rw [e3]
  have e5 : IntKind.u64.wrap ((2 ^ y.toNat : Nat) : Int) = ((2 ^ y.toNat : Nat) : Int) := u64_in (by omega)
  rw [e5]
  omega

theorem bp_ok {l : List Int} (hl : l.length = n) (hab : a ≤ b) : OS (slices_breakPatternsOrdered N a b l) (fun r => Sw a b l r) := by
  unfold slices_breakPatternsOrdered
  refine OS.of ?_
  unfold slices_breakPatternsOrdered_T
  have e0 : IntKind.i64.wrap (b - a) = b - a := i64_in (by omega)
  dsimp only
  rw [e0]
  refine TS.br (fun hc => ?_) (fun _ => TS.ret (.refl _))
  rw [leI_iff] at hc
  refine TS.call (pow_ok N hn (v := b - a) hc (by omega)) (fun m hm => ?_)
  obtain ⟨m1, m2⟩ := hm
  have e1 : (b - a).tdiv 4 = (b - a) / 4 := Int.tdiv_eq_ediv_of_nonneg (by omega)
  rw [e1]
  simp (disch := omega) only [i64_in]
  have hloop : OS (slices_breakPatternsOrdered_l5 N a (b - a) m (a + (b - a) / 4 * 2 - 1, l, IntKind.u64.wrap (b - a))) (fun r => Sw a b l r) := by
    refine loop_os (fun x : Int × List Int × Int => a ≤ x.1 ∧ Sw a b l x.2.1) (fun x => (b - x.1).toNat) _ ⟨by dsimp only; omega, .refl _⟩ (by dsimp only; omega) ?_
    rintro ⟨i, r, rnd⟩ ⟨h1, h2⟩
    dsimp only at h1 h2 ⊢
    have hr := h2.len
    unfold slices_breakPatternsOrdered_l5_T
    rw [e1]
    simp (disch := omega) only [i64_in]
    refine TS.br (fun hc2 => ?_) (fun _ => TS.ret h2)
    rw [leI_iff] at hc2
    refine TS.call (P := fun _ => True) ⟨_, rfl, trivial⟩ (fun y _ => ?_)
    have e2 : IntKind.u64.wrap (m - 1) = m - 1 := u64_in (by omega)
    have hle := bv_and_le y.1 (m - 1)
    have hsm := bv_small (y := m - 1) (by omega) (by omega)
    rw [e2]
    generalize (((BitVec.ofInt 64 y.1) &&& (BitVec.ofInt 64 (m - 1))).toNat : Nat) = q at hle
    have e3 : IntKind.u64.wrap (q : Int) = q := u64_in (by omega)
    have e4 : IntKind.i64.wrap (q : Int) = q := i64_in (by omega)
    rw [e3, e4]
    have hj : ∀ o : Int, 0 ≤ o → o < b - a → slices_breakPatternsOrdered_j10 N a i o r = some (swp r i (a + o)) := by
      intro o ho ho'
      have := swap_ts (l := r) (i := i) (j := a + o) (f := fun x => Tree.ret x) (Q := fun y => y = swp r i (a + o)) (by omega) (by omega) (TS.ret rfl)
      obtain ⟨y, hy, rfl⟩ := this
      unfold slices_breakPatternsOrdered_j10 slices_breakPatternsOrdered_j10_T
      simp (disch := omega) only [i64_in]
      exact hy
    refine TS.br (fun hc3 => ?_) (fun hc3 => ?_)
    · rw [leI_iff] at hc3
      simp (disch := omega) only [i64_in]
      rw [hj _ (by omega) (by omega)]
      refine TS.call (P := fun z => z = swp r i (a + ((q : Int) - (b - a)))) ⟨_, rfl, rfl⟩ (fun z hz => ?_)
      subst hz
      exact TS.ret ⟨⟨by dsimp only; omega, .step _ _ h2 (by omega) (by omega)⟩, by dsimp only; omega⟩
    · have hc3' : ¬ b - a ≤ (q : Int) := by rw [← leI_iff, hc3]; simp
      rw [hj _ (by omega) (by omega)]
      refine TS.call (P := fun z => z = swp r i (a + (q : Int))) ⟨_, rfl, rfl⟩ (fun z hz => ?_)
      subst hz
      simp (disch := omega) only [i64_in]
      exact TS.ret ⟨⟨by dsimp only; omega, .step _ _ h2 (by omega) (by omega)⟩, by dsimp only; omega⟩
  exact TS.call hloop (fun y hy => TS.ret hy)

/-! ### Pivots -/
omit hn hN ha hb in
theorem order2_ok {l : List Int} {x y s : Int} (hx : 0 ≤ x ∧ x < l.length) (hy : 0 ≤ y ∧ y < l.length) : OS (slices_order2Ordered N l x y s) (fun r => (r.1 = x ∧ r.2.1 = y) ∨ (r.1 = y ∧ r.2.1 = x)) := by
  unfold slices_order2Ordered
  refine OS.of ?_
  unfold slices_order2Ordered_T
  refine TS.brT (by rw [inRange_iff]; omega) (TS.brT (by rw [inRange_iff]; omega) (TS.less (fun _ => ?_) (fun _ => ?_)))
  · exact TS.brT rfl (TS.ret (.inr ⟨rfl, rfl⟩))
  · exact TS.brF rfl (TS.ret (.inl ⟨rfl, rfl⟩))
omit hn hN ha hb in
theorem median_ok {l : List Int} {lo hi x y z s : Int} (h0 : 0 ≤ lo) (h1 : hi ≤ l.length) (hx : lo ≤ x ∧ x < hi) (hy : lo ≤ y ∧ y < hi) (hz : lo ≤ z ∧ z < hi) : OS (slices_medianOrdered N l x y z s) (fun r => lo ≤ r.1 ∧ r.1 < hi) := by
  unfold slices_medianOrdered
  refine OS.of ?_
  unfold slices_medianOrdered_T
  refine TS.call (order2_ok N (by omega) (by omega)) (fun r1 h1 => TS.call (order2_ok N (by omega) (by omega)) (fun r2 h2 => TS.call (order2_ok N (by omega) (by omega)) (fun r3 h3 => TS.ret ?_)))
  dsimp only
  omega
omit hn hN ha hb in
theorem hint_ok {x : Int} : OS (slices_choosePivotOrdered_j12 N x) (fun _ => True) := by
  unfold slices_choosePivotOrdered_j12
  refine OS.of ?_
  unfold slices_choosePivotOrdered_j12_T
  exact TS.br (fun _ => TS.ret trivial) (fun _ => TS.br (fun _ => TS.ret trivial) (fun _ => TS.ret trivial))
omit hN in
theorem pivot_ok {l : List Int} (hl : l.length = n) (hab : a + 12 < b) : OS (slices_choosePivotOrdered N l a b) (fun r => a ≤ r.1 ∧ r.1 < b) := by
  unfold slices_choosePivotOrdered
  refine OS.of ?_
  unfold slices_choosePivotOrdered_T
  have e0 : IntKind.i64.wrap (b - a) = b - a := i64_in (by omega)
  have e1 : (b - a).tdiv 4 = (b - a) / 4 := Int.tdiv_eq_ediv_of_nonneg (by omega)
  dsimp only
  rw [e0, e1]
  simp (disch := omega) only [i64_in]
  have adj : ∀ (p s : Int), a + 1 ≤ p → p + 1 < b → OS (slices_medianAdjacentOrdered N l p s) (fun r => a ≤ r.1 ∧ r.1 < b) := fun p s h1 h2 => by
    unfold slices_medianAdjacentOrdered
    refine OS.of ?_
    unfold slices_medianAdjacentOrdered_T
    simp (disch := omega) only [i64_in]
    exact TS.call (median_ok N (lo := a) (hi := b) ha (by omega) (by omega) (by omega) (by omega)) (fun r hr => TS.ret hr)
  refine TS.br (fun _ => ?_) (fun _ => ?_)
  · refine TS.br (fun h50 => ?_) (fun _ => ?_)
    · rw [leI_iff] at h50
      refine TS.call (adj _ _ (by omega) (by omega)) (fun r1 h1 => TS.call (adj _ _ (by omega) (by omega)) (fun r2 h2 => TS.call (adj _ _ (by omega) (by omega)) (fun r3 h3 => TS.call (median_ok N (lo := a) (hi := b) ha (by omega) h1 h2 h3) (fun r4 h4 => TS.call (hint_ok N) (fun _ _ => TS.ret h4)))))
    · exact TS.call (median_ok N (lo := a) (hi := b) ha (by omega) (by omega) (by omega) (by omega)) (fun r4 h4 => TS.call (hint_ok N) (fun _ _ => TS.ret h4))
  · exact TS.call (hint_ok N) (fun _ _ => TS.ret (by dsimp only; omega))
end
end Go.Proofs.YtkcimijkcmoonaaDoorV
