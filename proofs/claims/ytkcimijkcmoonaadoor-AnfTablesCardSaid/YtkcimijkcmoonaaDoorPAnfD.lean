/- How many bits a word has. -/
import Derived.Test.YtkcimijkcmoonaaDoorPAnfC
namespace Go.Proofs.YtkcimijkcmoonaaDoorV
set_option linter.unusedVariables false
set_option linter.unusedSimpArgs false

theorem and_byte {a b : Nat} (ha : a < 256) (hb : b < 256) (A B : Nat) : (a + 256 * A) &&& (b + 256 * B) = (a &&& b) + 256 * (A &&& B) := by
  have hab : a &&& b < 256 := Nat.lt_of_le_of_lt Nat.and_le_left ha
  refine Nat.eq_of_testBit_eq fun i => ?_
  have e : ∀ (x X : Nat), x < 256 → (x + 256 * X).testBit i = if i < 8 then x.testBit i else X.testBit (i - 8) := fun x X hx => by
    have := Nat.testBit_two_pow_mul_add X (b := x) (i := 8) hx i
    rw [Nat.add_comm x]
    exact this
  rw [Nat.testBit_and, e a A ha, e b B hb, e _ _ hab]
  by_cases h : i < 8 <;> simp [h]

theorem test_byte {x : Nat} (hx : x < 256) (X j : Nat) : (x + 256 * X).testBit j = if j < 8 then x.testBit j else X.testBit (j - 8) := by
  have := Nat.testBit_two_pow_mul_add X (b := x) (i := 8) hx j
  rw [Nat.add_comm x]
  exact this

theorem s1_tab : ∀ x, x < 256 → ∀ b, b < 2 → ((x / 2 + 128 * b) &&& 85) = ((x / 2) &&& 85) := by decide +kernel
theorem s2_tab : ∀ x, x < 256 → ∀ b, b < 4 → ((x / 4 + 64 * b) &&& 51) = ((x / 4) &&& 51) := by decide +kernel
def s1 (x : Nat) : Nat := ((x / 2) &&& 85) + (x &&& 85)
def s2 (x : Nat) : Nat := ((x / 4) &&& 51) + (x &&& 51)
theorem s1_lt : ∀ x, x < 256 → s1 x < 256 := by decide +kernel
theorem s2_le : ∀ x, x < 256 → s2 (s1 x) ≤ 68 ∧ s2 (s1 x) % 16 ≤ 4 ∧ s2 (s1 x) / 16 ≤ 4 := by decide +kernel
theorem s2_lt : ∀ x, x < 256 → s2 x < 256 := by decide +kernel
def pc8 (x : Nat) : Nat := (List.range 8).countP fun i => x.testBit i
theorem pc8_le (x : Nat) : pc8 x ≤ 8 := by
  have := List.countP_le_length (p := fun i => x.testBit i) (l := List.range 8)
  simpa [pc8] using this
theorem s3_tab : ∀ x, x < 256 → ∀ b, b < 5 → ((s2 (s1 x) / 16 + s2 (s1 x) + 16 * b) &&& 15) = pc8 x := by decide +kernel

theorem step1 {x M : Nat} (hx : x < 256) (X : Nat) : (((x + 256 * X) / 2) &&& (85 + 256 * M)) + ((x + 256 * X) &&& (85 + 256 * M)) = s1 x + 256 * (((X / 2) &&& M) + (X &&& M)) := by
  have e : (x + 256 * X) / 2 = (x / 2 + 128 * (X % 2)) + 256 * (X / 2) := by omega
  rw [e, and_byte (by omega) (by decide), and_byte hx (by decide), s1_tab x hx _ (by omega)]
  unfold s1
  omega
theorem step2 {x M : Nat} (hx : x < 256) (X : Nat) : (((x + 256 * X) / 4) &&& (51 + 256 * M)) + ((x + 256 * X) &&& (51 + 256 * M)) = s2 x + 256 * (((X / 4) &&& M) + (X &&& M)) := by
  have e : (x + 256 * X) / 4 = (x / 4 + 64 * (X % 4)) + 256 * (X / 4) := by omega
  rw [e, and_byte (by omega) (by decide), and_byte hx (by decide), s2_tab x hx _ (by omega)]
  unfold s2
  omega

/-- Eight bytes as a number. -/
def by8 (a b c d e f g h : Nat) : Nat := a + 256 * (b + 256 * (c + 256 * (d + 256 * (e + 256 * (f + 256 * (g + 256 * (h + 256 * 0)))))))
theorem by8_of {x : Nat} (hx : x < 18446744073709551616) : ∃ a b c d e f g h : Nat, (a < 256 ∧ b < 256 ∧ c < 256 ∧ d < 256 ∧ e < 256 ∧ f < 256 ∧ g < 256 ∧ h < 256) ∧ x = by8 a b c d e f g h := by
  refine ⟨x % 256, x / 256 % 256, x / 65536 % 256, x / 16777216 % 256, x / 4294967296 % 256, x / 1099511627776 % 256, x / 281474976710656 % 256, x / 72057594037927936, ⟨by omega, by omega, by omega, by omega, by omega, by omega, by omega, by omega⟩, ?_⟩
  unfold by8
  omega

theorem lt_byte {x X K : Nat} (hx : x < 256) (hX : X < K) : x + 256 * X < 256 * K := by omega
theorem le_byte {x X K : Nat} (hx : x ≤ 68) (hX : X ≤ 68 * K) : x + 256 * X ≤ 68 * (1 + 256 * K) := by omega
theorem le_byte8 {x X K : Nat} (hx : x ≤ 8) (hX : X ≤ 8 * K) : x + 256 * X ≤ 8 * (1 + 256 * K) := by omega
theorem by8_lt {a b c d e f g h : Nat} (ha : a < 256) (hb : b < 256) (hc : c < 256) (hd : d < 256) (he : e < 256) (hf : f < 256) (hg : g < 256) (hh : h < 256) : by8 a b c d e f g h < 18446744073709551616 := by
  have := lt_byte ha (lt_byte hb (lt_byte hc (lt_byte hd (lt_byte he (lt_byte hf (lt_byte hg (lt_byte hh (X := 0) (K := 1) (by decide))))))))
  exact this
theorem by8_le {a b c d e f g h : Nat} (ha : a ≤ 68) (hb : b ≤ 68) (hc : c ≤ 68) (hd : d ≤ 68) (he : e ≤ 68) (hf : f ≤ 68) (hg : g ≤ 68) (hh : h ≤ 68) : by8 a b c d e f g h ≤ 68 * 72340172838076673 := by
  have := le_byte ha (le_byte hb (le_byte hc (le_byte hd (le_byte he (le_byte hf (le_byte hg (le_byte hh (X := 0) (K := 0) (by decide))))))))
  exact this
theorem dv8 {x K : Nat} (h : x < 256) : (x + 256 * K) / 256 = K := by omega
theorem dv16 {x K : Nat} (h : x < 65536) : (x + 65536 * K) / 65536 = K := by omega
theorem dv32 {x K : Nat} (h : x < 4294967296) : (x + 4294967296 * K) / 4294967296 = K := by omega
theorem add1 {a b c R2 R3 : Nat} (r2 : R2 = c + 256 * R3) : (a + 256 * (b + 256 * R2)) + (b + 256 * R2) = ((a + b) + 256 * (b + c)) + 65536 * (R2 + R3) := by omega
theorem add2 {x y c d e R4 R5 : Nat} (r4 : R4 = e + 256 * R5) : (x + 65536 * (c + 256 * (d + 256 * R4) + (d + 256 * R4))) + (c + 256 * (d + 256 * R4) + (d + 256 * R4)) = (x + (c + d) + 256 * (d + e) + 65536 * (c + d) + 16777216 * (d + e) + 65536 * (R4 + R5)) + 4294967296 * (R4 + R5) := by omega
theorem add3 {e f g h R6 R7 : Nat} (r6 : R6 = g + 256 * R7) : (e + 256 * (f + 256 * R6)) + (f + 256 * R6) = (e + f) + 256 * (f + g) + 65536 * (R6 + R7) := by omega
theorem sum_bytes {u a b c d e f g h : Nat} (ha : a ≤ 8) (hb : b ≤ 8) (hc : c ≤ 8) (hd : d ≤ 8) (he : e ≤ 8) (hf : f ≤ 8) (hg : g ≤ 8) (hh : h ≤ 8) (hu : u = by8 a b c d e f g h) :
    ∃ v w s, v = u + u / 256 ∧ w = v + v / 65536 ∧ s = w + w / 4294967296 ∧ s % 128 = a + b + c + d + e + f + g + h ∧ s < 9223372036854775808 ∧ v < 9223372036854775808 ∧ w < 9223372036854775808 ∧ u < 9223372036854775808 := by
  have hu2 : u ≤ 8 * 72340172838076673 := by
    have := le_byte8 ha (le_byte8 hb (le_byte8 hc (le_byte8 hd (le_byte8 he (le_byte8 hf (le_byte8 hg (le_byte8 hh (X := 0) (K := 0) (by decide))))))))
    rw [hu]
    exact this
  obtain ⟨R7, r7⟩ : ∃ R, R = h + 256 * 0 := ⟨_, rfl⟩
  obtain ⟨R6, r6⟩ : ∃ R, R = g + 256 * R7 := ⟨_, rfl⟩
  obtain ⟨R5, r5⟩ : ∃ R, R = f + 256 * R6 := ⟨_, rfl⟩
  obtain ⟨R4, r4⟩ : ∃ R, R = e + 256 * R5 := ⟨_, rfl⟩
  obtain ⟨R3, r3⟩ : ∃ R, R = d + 256 * R4 := ⟨_, rfl⟩
  obtain ⟨R2, r2⟩ : ∃ R, R = c + 256 * R3 := ⟨_, rfl⟩
  have r0 : u = a + 256 * (b + 256 * R2) := by rw [hu, r2, r3, r4, r5, r6, r7]; rfl
  have d1 : u / 256 = b + 256 * R2 := by rw [r0]; exact dv8 (by omega)
  obtain ⟨v, hv⟩ : ∃ v, v = u + u / 256 := ⟨_, rfl⟩
  have ev : v = ((a + b) + 256 * (b + c)) + 65536 * (R2 + R3) := by rw [hv, d1, r0]; exact add1 r2
  have d2 : v / 65536 = R2 + R3 := by rw [ev]; exact dv16 (by omega)
  obtain ⟨w, hw⟩ : ∃ w, w = v + v / 65536 := ⟨_, rfl⟩
  have q5 : R4 + R5 = (e + f) + 256 * (f + g) + 65536 * (R6 + R7) := by rw [r4, r5]; exact add3 (h := h) r6
  have q6 : R6 + R7 = (g + h) + 256 * h := by omega
  have ew : w = (((a + b) + 256 * (b + c)) + (c + d) + 256 * (d + e) + 65536 * (c + d) + 16777216 * (d + e) + 65536 * (R4 + R5)) + 4294967296 * (R4 + R5) := by rw [hw, d2, ev, r2, r3]; exact add2 (x := (a + b) + 256 * (b + c)) (y := 0) r4
  obtain ⟨y, hy⟩ : ∃ y, y = ((a + b) + 256 * (b + c)) + (c + d) + 256 * (d + e) + 65536 * (c + d) + 16777216 * (d + e) + 65536 * ((e + f) + 256 * (f + g)) := ⟨_, rfl⟩
  have ew2 : w = y + 4294967296 * (R4 + R5 + (R6 + R7)) := by rw [ew, hy]; omega
  have hylt : y < 4294967296 := by rw [hy]; clear ew ew2 ev d1 d2 hv hw r0 r2 r3 r4 r5 r6 r7 q5 q6 hu hu2; omega
  have d3 : w / 4294967296 = R4 + R5 + (R6 + R7) := by rw [ew2]; exact dv32 hylt
  refine ⟨v, w, w + w / 4294967296, hv, hw, rfl, ?_, ?_, ?_, ?_, ?_⟩
  · rw [d3, ew2, hy, q5, q6]
    clear ew ew2 ev d1 d2 d3 hv hw r0 r2 r3 r4 r5 r6 r7 q5 q6 hu hu2 hylt hy
    omega
  · clear ew ew2 ev d1 d2 d3 r0 r2 r3 r4 r5 r6 r7 q5 q6 hu hylt hy; omega
  · clear ew ew2 ev d1 d2 d3 r0 r2 r3 r4 r5 r6 r7 q5 q6 hu hylt hy; omega
  · clear ew ew2 ev d1 d2 d3 r0 r2 r3 r4 r5 r6 r7 q5 q6 hu hylt hy; omega
  · omega

section
variable {a b c d e f g h : Nat} (ha : a < 256) (hb : b < 256) (hc : c < 256) (hd : d < 256) (he : e < 256) (hf : f < 256) (hg : g < 256) (hh : h < 256)
include ha hb hc hd he hf hg hh
theorem by8_s1 : ((by8 a b c d e f g h / 2) &&& 6148914691236517205) + (by8 a b c d e f g h &&& 6148914691236517205) = by8 (s1 a) (s1 b) (s1 c) (s1 d) (s1 e) (s1 f) (s1 g) (s1 h) := by
  have hm : (6148914691236517205 : Nat) = by8 85 85 85 85 85 85 85 85 := by decide
  rw [hm]
  unfold by8
  rw [step1 ha, step1 hb, step1 hc, step1 hd, step1 he, step1 hf, step1 hg, step1 hh]
  simp
theorem by8_s2 : ((by8 a b c d e f g h / 4) &&& 3689348814741910323) + (by8 a b c d e f g h &&& 3689348814741910323) = by8 (s2 a) (s2 b) (s2 c) (s2 d) (s2 e) (s2 f) (s2 g) (s2 h) := by
  have hm : (3689348814741910323 : Nat) = by8 51 51 51 51 51 51 51 51 := by decide
  rw [hm]
  unfold by8
  rw [step2 ha, step2 hb, step2 hc, step2 hd, step2 he, step2 hf, step2 hg, step2 hh]
  simp
theorem by8_and15 : by8 a b c d e f g h &&& 1085102592571150095 = by8 (a &&& 15) (b &&& 15) (c &&& 15) (d &&& 15) (e &&& 15) (f &&& 15) (g &&& 15) (h &&& 15) := by
  have hm : (1085102592571150095 : Nat) = by8 15 15 15 15 15 15 15 15 := by decide
  rw [hm]
  unfold by8
  rw [and_byte ha (by decide), and_byte hb (by decide), and_byte hc (by decide), and_byte hd (by decide), and_byte he (by decide), and_byte hf (by decide), and_byte hg (by decide), and_byte hh (by decide)]
  simp
theorem by8_s3 : ((by8 (s2 (s1 a)) (s2 (s1 b)) (s2 (s1 c)) (s2 (s1 d)) (s2 (s1 e)) (s2 (s1 f)) (s2 (s1 g)) (s2 (s1 h)) / 16 + by8 (s2 (s1 a)) (s2 (s1 b)) (s2 (s1 c)) (s2 (s1 d)) (s2 (s1 e)) (s2 (s1 f)) (s2 (s1 g)) (s2 (s1 h))) &&& 1085102592571150095) =
    by8 (pc8 a) (pc8 b) (pc8 c) (pc8 d) (pc8 e) (pc8 f) (pc8 g) (pc8 h) := by
  obtain ⟨a1, a2, a3⟩ := s2_le a ha
  obtain ⟨b1, b2, b3⟩ := s2_le b hb
  obtain ⟨c1, c2, c3⟩ := s2_le c hc
  obtain ⟨d1, d2, d3⟩ := s2_le d hd
  obtain ⟨e1, e2, e3⟩ := s2_le e he
  obtain ⟨f1, f2, f3⟩ := s2_le f hf
  obtain ⟨g1, g2, g3⟩ := s2_le g hg
  obtain ⟨h1, h2, h3⟩ := s2_le h hh
  have ta := s3_tab a ha (s2 (s1 b) % 16) (by omega)
  have tb := s3_tab b hb (s2 (s1 c) % 16) (by omega)
  have tc := s3_tab c hc (s2 (s1 d) % 16) (by omega)
  have td := s3_tab d hd (s2 (s1 e) % 16) (by omega)
  have te := s3_tab e he (s2 (s1 f) % 16) (by omega)
  have tf := s3_tab f hf (s2 (s1 g) % 16) (by omega)
  have tg := s3_tab g hg (s2 (s1 h) % 16) (by omega)
  have th := s3_tab h hh 0 (by omega)
  rw [← ta, ← tb, ← tc, ← td, ← te, ← tf, ← tg, ← th]
  generalize s2 (s1 a) = a at *
  generalize s2 (s1 b) = b at *
  generalize s2 (s1 c) = c at *
  generalize s2 (s1 d) = d at *
  generalize s2 (s1 e) = e at *
  generalize s2 (s1 f) = f at *
  generalize s2 (s1 g) = g at *
  generalize s2 (s1 h) = h at *
  clear ta tb tc td te tf tg th
  rw [← by8_and15 (by omega) (by omega) (by omega) (by omega) (by omega) (by omega) (by omega) (by omega)]
  congr 1
  unfold by8
  omega
end

/-- How many of a word's bits are 1. -/
def cnt (t : Int) : Int := ((List.range 64).countP fun i => t.toNat.testBit i : Nat)

theorem cnt_by8 {a b c d e f g h : Nat} (ha : a < 256) (hb : b < 256) (hc : c < 256) (hd : d < 256) (he : e < 256) (hf : f < 256) (hg : g < 256) (hh : h < 256) :
    cnt (by8 a b c d e f g h : Nat) = ((pc8 a + pc8 b + pc8 c + pc8 d + pc8 e + pc8 f + pc8 g + pc8 h : Nat) : Int) := by
  unfold cnt
  congr 1
  rw [Int.toNat_natCast]
  have r : List.range 64 = List.range 8 ++ ((List.range 8).map (· + 8)) ++ ((List.range 8).map (· + 16)) ++ ((List.range 8).map (· + 24)) ++ ((List.range 8).map (· + 32)) ++ ((List.range 8).map (· + 40)) ++ ((List.range 8).map (· + 48)) ++ ((List.range 8).map (· + 56)) := by decide
  rw [r]
  simp only [List.countP_append, List.countP_map]
  have key : ∀ (k : Nat) (y : Nat), (∀ j, j < 8 → (by8 a b c d e f g h).testBit (j + k) = y.testBit j) → (List.range 8).countP ((fun i => (by8 a b c d e f g h).testBit i) ∘ (· + k)) = pc8 y := fun k y hk => by
    unfold pc8
    refine List.countP_congr fun j hj => ?_
    have := hk j (by simpa using hj)
    simp [this]
  have k0 : (List.range 8).countP (fun i => (by8 a b c d e f g h).testBit i) = pc8 a := by
    have := key 0 a (fun j hj => by unfold by8; rw [test_byte ha, if_pos (by omega)]; rfl)
    simpa [Function.comp_def] using this
  rw [k0, key 8 b, key 16 c, key 24 d, key 32 e, key 40 f, key 48 g, key 56 h]
  all_goals (intro j hj; unfold by8)
  · rw [test_byte ha, if_neg (by omega), test_byte hb, if_neg (by omega), test_byte hc, if_neg (by omega), test_byte hd, if_neg (by omega), test_byte he, if_neg (by omega), test_byte hf, if_neg (by omega), test_byte hg, if_neg (by omega), test_byte hh, if_pos (by omega)]; rfl
  · rw [test_byte ha, if_neg (by omega), test_byte hb, if_neg (by omega), test_byte hc, if_neg (by omega), test_byte hd, if_neg (by omega), test_byte he, if_neg (by omega), test_byte hf, if_neg (by omega), test_byte hg, if_pos (by omega)]; rfl
  · rw [test_byte ha, if_neg (by omega), test_byte hb, if_neg (by omega), test_byte hc, if_neg (by omega), test_byte hd, if_neg (by omega), test_byte he, if_neg (by omega), test_byte hf, if_pos (by omega)]; rfl
  · rw [test_byte ha, if_neg (by omega), test_byte hb, if_neg (by omega), test_byte hc, if_neg (by omega), test_byte hd, if_neg (by omega), test_byte he, if_pos (by omega)]; rfl
  · rw [test_byte ha, if_neg (by omega), test_byte hb, if_neg (by omega), test_byte hc, if_neg (by omega), test_byte hd, if_pos (by omega)]; rfl
  · rw [test_byte ha, if_neg (by omega), test_byte hb, if_neg (by omega), test_byte hc, if_pos (by omega)]; rfl
  · rw [test_byte ha, if_neg (by omega), test_byte hb, if_pos (by omega)]; rfl

theorem andI {x M : Nat} (hx : x < 18446744073709551616) (hM : M < 18446744073709551616) : IntKind.u64.wrap (((BitVec.ofInt 64 (x : Int)) &&& (BitVec.ofInt 64 (M : Int))).toNat : Int) = ((x &&& M : Nat) : Int) := by
  rw [wrapBV, BitVec.ofInt_natCast, BitVec.ofInt_natCast, BitVec.toNat_and, BitVec.toNat_ofNat, BitVec.toNat_ofNat, Nat.mod_eq_of_lt hx, Nat.mod_eq_of_lt hM]
theorem fdivN (x k : Nat) (hk : 0 < k) : ((x : Int)).fdiv (k : Int) = ((x / k : Nat) : Int) := by
  rw [Int.fdiv_eq_ediv_of_nonneg _ (by omega)]; simp
theorem addI {x y : Nat} (h : x + y < 18446744073709551616) : IntKind.u64.wrap ((x : Int) + (y : Int)) = ((x + y : Nat) : Int) := by
  rw [← Int.natCast_add, u64_in (by omega)]

theorem ones_eq (N : Nat) {t : Int} (ht : U64 t) : bits_OnesCount64 N t = some (cnt t) := by
  obtain ⟨x, rfl⟩ : ∃ x : Nat, t = x := ⟨t.toNat, by omega⟩
  obtain ⟨a, b, c, d, e, f, g, h, ⟨ha, hb, hc, hd, he, hf, hg, hh⟩, rfl⟩ := by8_of (x := x) (by omega)
  rw [cnt_by8 ha hb hc hd he hf hg hh]
  have key : TS (bits_OnesCount64_T N (by8 a b c d e f g h : Nat)) (fun y => y = ((pc8 a + pc8 b + pc8 c + pc8 d + pc8 e + pc8 f + pc8 g + pc8 h : Nat) : Int)) := by
    unfold bits_OnesCount64_T
    have m1 := by8_s1 ha hb hc hd he hf hg hh
    have m2 := by8_s2 (s1_lt a ha) (s1_lt b hb) (s1_lt c hc) (s1_lt d hd) (s1_lt e he) (s1_lt f hf) (s1_lt g hg) (s1_lt h hh)
    have m3 := by8_s3 ha hb hc hd he hf hg hh
    have h1 := by8_lt (s1_lt a ha) (s1_lt b hb) (s1_lt c hc) (s1_lt d hd) (s1_lt e he) (s1_lt f hf) (s1_lt g hg) (s1_lt h hh)
    have h2' := by8_le (s2_le a ha).1 (s2_le b hb).1 (s2_le c hc).1 (s2_le d hd).1 (s2_le e he).1 (s2_le f hf).1 (s2_le g hg).1 (s2_le h hh).1
    generalize by8 a b c d e f g h = x at *
    generalize by8 (s1 a) (s1 b) (s1 c) (s1 d) (s1 e) (s1 f) (s1 g) (s1 h) = y at *
    generalize by8 (s2 (s1 a)) (s2 (s1 b)) (s2 (s1 c)) (s2 (s1 d)) (s2 (s1 e)) (s2 (s1 f)) (s2 (s1 g)) (s2 (s1 h)) = z at *
    have hx : x < 18446744073709551616 := by omega
    have w1 : (x : Int).fdiv (2 ^ 1) = ((x / 2 : Nat) : Int) := fdivN x 2 (by decide)
    have w2 : (y : Int).fdiv (2 ^ 2) = ((y / 4 : Nat) : Int) := fdivN y 4 (by decide)
    have w3 : (z : Int).fdiv (2 ^ 4) = ((z / 16 : Nat) : Int) := fdivN z 16 (by decide)
    have p1 : IntKind.u64.wrap (((BitVec.ofInt 64 ((x / 2 : Nat) : Int)) &&& (BitVec.ofInt 64 6148914691236517205)).toNat : Int) = (((x / 2) &&& 6148914691236517205 : Nat) : Int) := andI (x := x / 2) (M := 6148914691236517205) (by omega) (by decide)
    have p2 : IntKind.u64.wrap (((BitVec.ofInt 64 (x : Int)) &&& (BitVec.ofInt 64 6148914691236517205)).toNat : Int) = ((x &&& 6148914691236517205 : Nat) : Int) := andI (x := x) (M := 6148914691236517205) hx (by decide)
    have p3 : IntKind.u64.wrap (((BitVec.ofInt 64 ((y / 4 : Nat) : Int)) &&& (BitVec.ofInt 64 3689348814741910323)).toNat : Int) = (((y / 4) &&& 3689348814741910323 : Nat) : Int) := andI (x := y / 4) (M := 3689348814741910323) (by omega) (by decide)
    have p4 : IntKind.u64.wrap (((BitVec.ofInt 64 (y : Int)) &&& (BitVec.ofInt 64 3689348814741910323)).toNat : Int) = ((y &&& 3689348814741910323 : Nat) : Int) := andI (x := y) (M := 3689348814741910323) h1 (by decide)
    have q1 := addI (x := (x / 2) &&& 6148914691236517205) (y := x &&& 6148914691236517205) (by omega)
    have q2 := addI (x := (y / 4) &&& 3689348814741910323) (y := y &&& 3689348814741910323) (by omega)
    have q3 := addI (x := z / 16) (y := z) (by omega)
    have p5 : IntKind.u64.wrap (((BitVec.ofInt 64 ((z / 16 + z : Nat) : Int)) &&& (BitVec.ofInt 64 1085102592571150095)).toNat : Int) = (((z / 16 + z) &&& 1085102592571150095 : Nat) : Int) := andI (x := z / 16 + z) (M := 1085102592571150095) (by omega) (by decide)
    dsimp only
    rw [w1, p1, p2, q1, m1, w2, p3, p4, q2, m2, w3, q3, p5, m3]
    have a8 := pc8_le a; have b8 := pc8_le b; have c8 := pc8_le c; have d8 := pc8_le d; have e8 := pc8_le e; have f8 := pc8_le f; have g8 := pc8_le g; have h8 := pc8_le h
    clear m1 m2 m3 h1 h2' w1 w2 w3 p1 p2 p3 p4 p5 q1 q2 q3 hx
    generalize pc8 a = a at *
    generalize pc8 b = b at *
    generalize pc8 c = c at *
    generalize pc8 d = d at *
    generalize pc8 e = e at *
    generalize pc8 f = f at *
    generalize pc8 g = g at *
    generalize pc8 h = h at *
    obtain ⟨u, hu⟩ : ∃ u, u = by8 a b c d e f g h := ⟨_, rfl⟩
    rw [← hu]
    obtain ⟨v, w, s, hv, hw, hs, t1, t2, t3, t4, t5⟩ := sum_bytes a8 b8 c8 d8 e8 f8 g8 h8 hu
    clear hu
    have w4 : (u : Int).fdiv (2 ^ 8) = ((u / 256 : Nat) : Int) := fdivN u 256 (by decide)
    have w4' : IntKind.u64.wrap ((u : Int) + ((u / 256 : Nat) : Int)) = v := by rw [addI (by omega), hv]
    have w5 : (v : Int).fdiv (2 ^ 16) = ((v / 65536 : Nat) : Int) := fdivN v 65536 (by decide)
    have w5' : IntKind.u64.wrap ((v : Int) + ((v / 65536 : Nat) : Int)) = w := by rw [addI (by omega), hw]
    have w6 : (w : Int).fdiv (2 ^ 32) = ((w / 4294967296 : Nat) : Int) := fdivN w 4294967296 (by decide)
    have w6' : IntKind.u64.wrap ((w : Int) + ((w / 4294967296 : Nat) : Int)) = s := by rw [addI (by omega), hs]
    have w7 : IntKind.i64.wrap (s : Int) = s := i64_in (by omega)
    rw [w4, w4', w5, w5', w6, w6', w7]
    have w8 : ((BitVec.ofInt 64 (s : Int)) &&& (BitVec.ofInt 64 127)).toNat = s % 128 := by
      have e127 : (BitVec.ofInt 64 127) = BitVec.ofNat 64 127 := by decide
      rw [BitVec.ofInt_natCast, e127, BitVec.toNat_and, BitVec.toNat_ofNat, BitVec.toNat_ofNat, Nat.mod_eq_of_lt (by omega), Nat.mod_eq_of_lt (by decide)]
      exact Nat.and_two_pow_sub_one_eq_mod s 7
    rw [w8, t1]
    have w9 : IntKind.i64.wrap ((a + b + c + d + e + f + g + h : Nat) : Int) = ((a + b + c + d + e + f + g + h : Nat) : Int) := i64_in (by omega)
    rw [w9]
    exact TS.ret rfl
  obtain ⟨y, hy, rfl⟩ := key
  exact hy
end Go.Proofs.YtkcimijkcmoonaaDoorV
