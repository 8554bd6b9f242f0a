/- Words as bits: the document's shifts and turns are those of bit vectors. -/
import Derived.Test.YtgajjcehnpaooaaGreatDoorCird
import Derived.Test.YtgajjcehnpaooaaGreatDoorWa
namespace Go.Proofs.YtgajjcehnpaooaaGreatDoorV
set_option linter.unusedVariables false
set_option linter.unusedSimpArgs false

def bl (x : BitVec 32) : List Bool := (List.range 32).map fun i => x.getLsbD i

theorem bl_len (x : BitVec 32) : (bl x).length = 32 := by simp [bl]
theorem bl_get (x : BitVec 32) (i : Nat) : (bl x).getD i false = x.getLsbD i := by
  rcases Nat.lt_or_ge i 32 with h | h
  · rw [getD_nat _ _ _ (by rw [bl_len]; exact h)]
    simp [bl]
  · rw [List.getD_eq_getElem?_getD, List.getElem?_eq_none (by rw [bl_len]; exact h), BitVec.getLsbD_of_ge _ _ h]; rfl

theorem bit_div (x : BitVec 32) (i : Nat) : ((((x.toNat / 2 ^ i : Nat) : Int).tmod 2) == 1) = x.getLsbD i := by
  rw [BitVec.getLsbD, Nat.testBit_eq_decide_div_mod_eq]
  generalize x.toNat / 2 ^ i = y
  have : ((y : Int).tmod 2) = ((y % 2 : Nat) : Int) := by
    rw [Int.tmod_eq_emod_of_nonneg (by omega)]; omega
  rw [this, Bool.eq_iff_iff]
  simp
  omega

theorem div_step (x : BitVec 32) (i : Nat) : IntKind.u32.wrap (((x.toNat / 2 ^ i : Nat) : Int).tdiv 2) = ((x.toNat / 2 ^ (i + 1) : Nat) : Int) := by
  have hx := x.isLt
  have h2 := Nat.div_le_self x.toNat (2 ^ i)
  rw [Nat.pow_succ, ← Nat.div_div_eq_div_mul]
  generalize x.toNat / 2 ^ i = y at *
  have h1 : (y : Int).tdiv 2 = ((y / 2 : Nat) : Int) := by
    rw [Int.tdiv_eq_ediv_of_nonneg (by omega)]; omega
  rw [h1, u32_in (by omega)]

theorem bits_is (N : Nat) (x : BitVec 32) (hN : 32 < N) : bautaref01_Bits N x.toNat = some (bl x) := by
  have : bautaref01_Bits_l3 N ((x.toNat : Int), 0, []) = some (bl x) := by
    unfold bautaref01_Bits_l3
    have := loop_up (s := fun v => bautaref01_Bits_l3_T N v.1 v.2.1 v.2.2) (fun i : Nat => (((x.toNat / 2 ^ i : Nat) : Int), (i : Int), (List.range i).map fun i => x.getLsbD i)) 32 (bl x) (k := 0) (m := N) (by omega) (by omega) (fun i _ hi => ?_) ?_
    · simpa using this
    · simp only [bautaref01_Bits_l3_T, run_br, run_ret, ltI_eq, decide_eq_true_eq, bit_div, div_step, i64_succ (i := i) (by omega), List.length_map, List.length_range]
      rw [if_pos (by omega), if_pos (by omega)]
      simp [List.range_succ]
    · simp [bautaref01_Bits_l3_T, bl]
  simp only [bautaref01_Bits, bautaref01_Bits_T, run_call, this, Option.bind_some, run_ret]

theorem word_step (x : BitVec 32) (i : Nat) (hi : i < 32) : (if x.getLsbD i = true then IntKind.u32.wrap (IntKind.u32.wrap (((x.toNat / 2 ^ (i + 1) : Nat) : Int) * 2) + 1) else IntKind.u32.wrap (((x.toNat / 2 ^ (i + 1) : Nat) : Int) * 2)) = ((x.toNat / 2 ^ i : Nat) : Int) := by
  have hx := x.isLt
  have h1 : x.toNat / 2 ^ (i + 1) = x.toNat / 2 ^ i / 2 := by rw [Nat.pow_succ, ← Nat.div_div_eq_div_mul]
  have h2 := Nat.div_le_self x.toNat (2 ^ i)
  rw [BitVec.getLsbD, Nat.testBit_eq_decide_div_mod_eq]
  rw [h1]
  generalize x.toNat / 2 ^ i = y at *
  have e1 : IntKind.u32.wrap (((y / 2 : Nat) : Int) * 2) = ((y / 2 : Nat) : Int) * 2 := u32_in (by omega)
  rw [e1]
  split
  · rename_i h
    simp at h
    rw [u32_in (by omega)]; omega
  · rename_i h
    simp at h
    omega

theorem word_is (N : Nat) (x : BitVec 32) (hN : 33 < N) : bautaref01_Word N (bl x) = some (x.toNat : Int) := by
  have hx := x.isLt
  have : bautaref01_Word_l3 N (bl x) (0, 31) = some (x.toNat : Int) := by
    unfold bautaref01_Word_l3
    have := loop_up (s := fun v => bautaref01_Word_l3_T N (bl x) v.1 v.2) (fun i : Nat => (((x.toNat / 2 ^ (32 - i) : Nat) : Int), 31 - (i : Int))) 32 (x.toNat : Int) (k := 0) (m := N) (by omega) (by omega) (fun i _ hi => ?_) ?_
    · simp only [Nat.sub_zero] at this
      rw [Nat.div_eq_of_lt (by omega)] at this
      exact this
    · have e : (31 - (i : Int)) = ((31 - i : Nat) : Int) := by omega
      have hw := word_step x (31 - i) (by omega)
      rw [show 31 - i + 1 = 32 - i by omega] at hw
      simp only [bautaref01_Word_l3_T, run_br, run_ret, leI_eq, decide_eq_true_eq, inRange_iff, bl_len, e, toNat_nat, bl_get, i64_in (x := ((31 - i : Nat) : Int) - 1) (by omega)]
      rw [if_pos (by omega), if_pos (by omega), show 32 - (i + 1) = 31 - i by omega, ← hw]
      have e2 : ((31 - i : Nat) : Int) - 1 = 31 - ((i + 1 : Nat) : Int) := by omega
      rw [e2]
      split <;> rfl
    · simp [bautaref01_Word_l3_T]
  simp only [bautaref01_Word, bautaref01_Word_T, run_call, bl_len]
  rw [show IntKind.i64.wrap (((32 : Nat) : Int) - 1) = 31 from rfl, this]
  rfl

/-! ### Shifts -/
theorem map_set (f : Nat → Bool) (n k : Nat) (v : Bool) : ((List.range n).map f).set k v = (List.range n).map fun i => if i = k then v else f i := by
  apply List.ext_getElem (by simp)
  intro i h1 h2
  simp only [List.getElem_set, List.getElem_map, List.getElem_range]
  by_cases e : k = i
  · simp [e]
  · simp [e, Ne.symm e]

/-- One place farther: to the left, to the right, with the sign, round. -/
def sh1 (op : Int) (x : BitVec 32) : BitVec 32 := if op = 0 then x <<< 1 else if op = 1 then x >>> 1 else if op = 2 then x.sshiftRight 1 else x.rotateRight 1

/-- What is taken for the moment. -/
def tgt (op : Int) (x : BitVec 32) (k : Nat) : Bool := if op = 0 then (if 0 < k then x.getLsbD (k - 1) else false) else if k < 31 then x.getLsbD (k + 1) else false

theorem l11_is (N : Nat) (op : Int) (hop : 0 ≤ op ∧ op ≤ 3) (x : BitVec 32) (hN : 32 < N) : bautaref01_Shift_l11 N op (bl x) (0, List.replicate 32 false) = some ((List.range 32).map (tgt op x)) := by
  unfold bautaref01_Shift_l11
  have := loop_up (s := fun v => bautaref01_Shift_l11_T N op (bl x) v.1 v.2) (fun k : Nat => ((k : Int), (List.range 32).map fun i => if i < k then tgt op x i else false)) 32 ((List.range 32).map (tgt op x)) (k := 0) (m := N) (by omega) (by omega) (fun k _ hk => ?_) ?_
  · have e : ((List.range 32).map fun i => if i < 0 then tgt op x i else false) = List.replicate 32 false := by simp; rfl
    rw [e] at this
    exact this
  · have hset : ∀ v, v = tgt op x k → (((List.range 32).map fun i => if i < k then tgt op x i else false).set k v) = (List.range 32).map fun i => if i < k + 1 then tgt op x i else false := by
      intro v hv
      rw [map_set]
      apply List.map_congr_left
      intro i _
      by_cases h1 : i = k
      · subst h1; simp [hv]
      · by_cases h2 : i < k
        · simp [h1, h2, show i < k + 1 by omega]
        · simp [h1, h2, show ¬ i < k + 1 by omega]
    have hsame : tgt op x k = false → ((List.range 32).map fun i => if i < k then tgt op x i else false) = (List.range 32).map fun i => if i < k + 1 then tgt op x i else false := by
      intro hv
      apply List.map_congr_left
      intro i _
      by_cases h1 : i = k
      · subst h1; simp [hv]
      · by_cases h2 : i < k
        · simp [h2, show i < k + 1 by omega]
        · simp [h2, show ¬ i < k + 1 by omega]
    by_cases h0 : op = 0
    · subst h0
      by_cases hk0 : 0 < k
      · have e1 : IntKind.i64.wrap ((k : Int) - 1) = ((k - 1 : Nat) : Int) := by rw [i64_in (by omega)]; omega
        simp only [bautaref01_Shift_l11_T, bautaref01_Shift_j14, bautaref01_Shift_j14_T, bautaref01_Shift_j15, bautaref01_Shift_j15_T, bautaref01_Shift_j16, bautaref01_Shift_j16_T, run_br, run_call, run_ret, ltI_eq, decide_eq_true_eq, inRange_iff, e1, toNat_nat, bl_len, bl_get, List.length_map, List.length_range, i64_succ (i := k) (by omega), beq_iffI]
        rw [if_pos (by omega)]
        simp only [if_true]
        rw [if_pos (by omega), if_pos (by omega), if_pos (by omega), hset _ (by simp [tgt, hk0])]
        rfl
      · obtain rfl : k = 0 := by omega
        simp only [bautaref01_Shift_l11_T, bautaref01_Shift_j14, bautaref01_Shift_j14_T, bautaref01_Shift_j15, bautaref01_Shift_j15_T, bautaref01_Shift_j16, bautaref01_Shift_j16_T, run_br, run_call, run_ret, ltI_eq, decide_eq_true_eq, beq_iffI]
        rw [← hsame (by simp [tgt])]
        rfl
    · have hp : 0 < op := by omega
      by_cases hk0 : k < 31
      · have e1 : IntKind.i64.wrap ((k : Int) + 1) = ((k + 1 : Nat) : Int) := i64_succ (by omega)
        simp only [bautaref01_Shift_l11_T, bautaref01_Shift_j14, bautaref01_Shift_j14_T, bautaref01_Shift_j15, bautaref01_Shift_j15_T, bautaref01_Shift_j16, bautaref01_Shift_j16_T, run_br, run_call, run_ret, ltI_eq, decide_eq_true_eq, inRange_iff, e1, toNat_nat, bl_len, bl_get, List.length_map, List.length_range, beq_iffI]
        rw [if_pos (by omega), if_neg h0]
        simp only [Bool.false_eq_true, if_false, Option.bind_some, List.length_map, List.length_range, e1]
        rw [if_pos hp, if_pos (by omega), if_pos (by omega), if_pos (by omega), hset _ (by simp [tgt, h0, hk0])]
        rfl
      · simp only [bautaref01_Shift_l11_T, bautaref01_Shift_j14, bautaref01_Shift_j14_T, bautaref01_Shift_j15, bautaref01_Shift_j15_T, bautaref01_Shift_j16, bautaref01_Shift_j16_T, run_br, run_call, run_ret, ltI_eq, decide_eq_true_eq, i64_succ (i := k) (by omega), beq_iffI]
        rw [if_pos (by omega), if_neg h0]
        simp only [Bool.false_eq_true, if_false, Option.bind_some]
        rw [if_pos hp, if_neg (by omega), ← hsame (by simp [tgt, h0, hk0])]
        rfl
  · simp only [bautaref01_Shift_l11_T, run_br, run_ret, ltI_eq, decide_eq_true_eq]
    rw [if_neg (by omega)]
    have e : ((List.range 32).map fun i => if i < 32 then tgt op x i else false) = (List.range 32).map (tgt op x) := by
      apply List.map_congr_left
      intro i hi
      rw [if_pos (by simpa using hi)]
    rw [e]

/-- The bit that goes out. -/
def cout (op : Int) (x : BitVec 32) : Bool := if op = 0 then x.getLsbD 31 else x.getLsbD 0

theorem tgt_sh (op : Int) (hop : 0 ≤ op ∧ op ≤ 3) (x : BitVec 32) :
    ((List.range 32).map fun i => if i = 31 ∧ op = 2 then x.getLsbD 31 else if i = 31 ∧ op = 3 then x.getLsbD 0 else tgt op x i) = bl (sh1 op x) := by
  apply List.map_congr_left
  intro i hi
  have hi : i < 32 := by simpa using hi
  obtain rfl | rfl | rfl | rfl : op = 0 ∨ op = 1 ∨ op = 2 ∨ op = 3 := by omega
  · simp only [sh1, tgt, if_true, BitVec.getLsbD_shiftLeft]
    by_cases h : i = 0
    · subst h; rfl
    · simp [hi, h, show 0 < i by omega, show ¬ i < 1 by omega]
  · simp only [sh1, tgt, BitVec.getLsbD_ushiftRight]
    simp
    rw [Nat.add_comm]
    by_cases h : i < 31
    · simp [h]
    · obtain rfl : i = 31 := by omega
      simp
  · show _ = (x.sshiftRight 1).getLsbD i
    rw [BitVec.getLsbD_sshiftRight]
    by_cases h : i < 31
    · simp [tgt, h, show ¬ i = 31 by omega, show 1 + i < 32 by omega, Nat.add_comm, show ¬ 32 ≤ i by omega]
      omega
    · obtain rfl : i = 31 := by omega
      simp [BitVec.msb_eq_getLsbD_last]
  · show _ = (x.rotateRight 1).getLsbD i
    rw [BitVec.getLsbD_rotateRight]
    simp only [tgt]
    by_cases h : i < 31
    · simp [h, show ¬ i = 31 by omega, Nat.add_comm]
    · obtain rfl : i = 31 := by omega
      simp

theorem j9_is (N : Nat) (op : Int) (hop : 0 ≤ op ∧ op ≤ 3) (x : BitVec 32) (i : Nat) (hi : i < 1000) (hN : 32 < N) :
    bautaref01_Shift_j9 N op i (bl x) = some (cout op x, ((i + 1 : Nat) : Int), bl (sh1 op x)) := by
  have e1 : IntKind.u32.wrap ((i : Int) + 1) = ((i + 1 : Nat) : Int) := by rw [u32_in (by omega)]; rfl
  have hs := tgt_sh op hop x
  have hr : [false, false, false, false, false, false, false, false, false, false, false, false, false, false, false, false, false, false, false, false, false, false, false, false, false, false, false, false, false, false, false, false] = List.replicate 32 false := rfl
  simp only [bautaref01_Shift_j9, bautaref01_Shift_j9_T, bautaref01_Shift_j20, bautaref01_Shift_j20_T, bautaref01_Shift_j22, bautaref01_Shift_j22_T, hr, run_call, l11_is N op hop x hN, Option.bind_some, e1, run_br, run_ret, inRange_iff, bl_len, bl_get, List.length_map, List.length_range, List.length_set, beq_iffI]
  obtain rfl | rfl | rfl | rfl : op = 0 ∨ op = 1 ∨ op = 2 ∨ op = 3 := by omega
  · simp at hs ⊢; exact ⟨rfl, hs⟩
  · simp at hs ⊢; exact ⟨rfl, hs⟩
  · simp at hs ⊢
    refine ⟨rfl, ?_⟩
    rw [← hs, map_set]
  · simp at hs ⊢
    refine ⟨rfl, ?_⟩
    rw [← hs, map_set]

def shn (op : Int) (x : BitVec 32) : Nat → BitVec 32
  | 0 => x
  | n + 1 => sh1 op (shn op x n)

def coutn (op : Int) (x : BitVec 32) (c : Bool) : Nat → Bool
  | 0 => c
  | n + 1 => cout op (shn op x n)

theorem shift_is (N : Nat) (op : Int) (hop : 0 ≤ op ∧ op ≤ 3) (x : BitVec 32) (n : Nat) (hn : n ≤ 64) (c : Bool) (hN : 70 < N) :
    bautaref01_Shift N op x.toNat n c = some (((shn op x n).toNat : Int), coutn op x c n) := by
  have l7 : bautaref01_Shift_l7 N op n (c, 0, bl x) = some (coutn op x c n, bl (shn op x n)) := by
    unfold bautaref01_Shift_l7
    have := loop_up (s := fun v => bautaref01_Shift_l7_T N op n v.1 v.2.1 v.2.2) (fun i : Nat => (coutn op x c i, (i : Int), bl (shn op x i))) n (coutn op x c n, bl (shn op x n)) (k := 0) (m := N) (by omega) (by omega) (fun i _ hi => ?_) ?_
    · exact this
    · simp only [bautaref01_Shift_l7_T, run_br, run_call, run_ret, ltI_eq, decide_eq_true_eq, j9_is N op hop _ i (by omega) (by omega), Option.bind_some]
      rw [if_pos (by omega), if_pos (by omega)]
      rfl
    · simp [bautaref01_Shift_l7_T]
  have j5 : bautaref01_Shift_j5 N op x.toNat n c = some (((shn op x n).toNat : Int), coutn op x c n) := by
    simp only [bautaref01_Shift_j5, bautaref01_Shift_j5_T, run_call, bits_is N x (by omega), l7, word_is N _ (by omega : 33 < N), Option.bind_some, run_ret]
  simp only [bautaref01_Shift, bautaref01_Shift_T, bautaref01_Shift_j3, bautaref01_Shift_j3_T, run_br, run_call, run_ret, ltI_eq, decide_eq_true_eq, j5, Option.bind_some, beq_iffI]
  rw [if_neg (by omega), if_neg (by omega)]
  split
  · rw [if_neg (by omega)]; rfl
  · rfl

theorem shn_left (x : BitVec 32) : ∀ n, shn 0 x n = x <<< n
  | 0 => by simp [shn]
  | n + 1 => by rw [shn, shn_left x n, sh1, if_pos rfl, BitVec.shiftLeft_add]
theorem shn_right (x : BitVec 32) : ∀ n, shn 1 x n = x >>> n
  | 0 => by simp [shn]
  | n + 1 => by rw [shn, shn_right x n, sh1, if_neg (by decide), if_pos rfl]; apply BitVec.eq_of_getLsbD_eq; intro i _; simp [Nat.add_assoc]

theorem rot_is (N : Nat) (x : BitVec 32) (n : Nat) (hn : n ≤ 4294967295) (hN : 40 < N) : ∃ y : BitVec 32, bautaref01_Rot N x.toNat n = some (y.toNat : Int) ∧ y = Nat.repeat (fun z : BitVec 32 => z.rotateLeft 1) (n % 32) x := by
  have hm : ((n : Int).tmod 32) = ((n % 32 : Nat) : Int) := by rw [Int.tmod_eq_emod_of_nonneg (by omega)]; omega
  have hlt : n % 32 < 32 := Nat.mod_lt _ (by omega)
  generalize hk : n % 32 = k at *
  have step : ∀ z : BitVec 32, [z.getLsbD 31] ++ (((bl z).drop 0).take 31) = bl (z.rotateLeft 1) := by
    intro z
    apply List.ext_getElem (by simp [bl_len])
    intro i h1 h2
    have hi : i < 32 := by rw [bl_len] at h2; exact h2
    simp only [bl, List.getElem_map, List.getElem_range, BitVec.getLsbD_rotateLeft]
    cases i with
    | zero => simp
    | succ i => simp; omega
  have l3 : bautaref01_Rot_l3 N n (0, bl x) = some (bl (Nat.repeat (fun z : BitVec 32 => z.rotateLeft 1) k x)) := by
    unfold bautaref01_Rot_l3
    have := loop_up (s := fun v => bautaref01_Rot_l3_T N n v.1 v.2) (fun i : Nat => ((i : Int), bl (Nat.repeat (fun z : BitVec 32 => z.rotateLeft 1) i x))) k (bl (Nat.repeat (fun z : BitVec 32 => z.rotateLeft 1) k x)) (k := 0) (m := N) (by omega) (by omega) (fun i _ hi => ?_) ?_
    · exact this
    · have e1 : IntKind.u32.wrap ((i : Int) + 1) = ((i + 1 : Nat) : Int) := by rw [u32_in (by omega)]; rfl
      have h31 : (0 : Int) ≤ 31 ∧ (31 : Int) < ((32 : Nat) : Int) := by omega
      have hll : (((bl (Nat.repeat (fun z : BitVec 32 => z.rotateLeft 1) i x)).drop 0).take 31).length = 31 := by simp [bl_len]
      simp only [bautaref01_Rot_l3_T, run_br, run_ret, ltI_eq, leI_eq, decide_eq_true_eq, hm, inRange_iff, bl_len, bl_get, e1, and_iffB, hll, step, Nat.repeat]
      rw [if_pos (by omega), if_pos h31, if_pos (by omega), if_pos (by omega)]
    · simp only [bautaref01_Rot_l3_T, run_br, run_ret, ltI_eq, decide_eq_true_eq, hm]
      rw [if_neg (by omega)]
  refine ⟨_, ?_, rfl⟩
  simp only [bautaref01_Rot, bautaref01_Rot_T, run_call, bits_is N x (by omega), l3, word_is N _ (by omega : 33 < N), Option.bind_some, run_ret]
end Go.Proofs.YtgajjcehnpaooaaGreatDoorV
