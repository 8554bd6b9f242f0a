/- The plain law of HexfileFlats. -/
import Derived.Test.YtoahoagfkpfhnaaHexfileFlatsd
import Derived.IntWalk
namespace Go.Proofs.YtoahoagfkpfhnaaV
open Go.RowKit
set_option linter.unusedVariables false
set_option linter.unusedSimpArgs false

/-- A byte laid at its place, if it is asked for. -/
def put (base n a c : Int) (out : List Int) : List Int := if base ≤ a ∧ a - base < n ∧ a < 4294967296 then out.set (a - base).toNat c else out

def putB (base n : Int) : Int → List Int → List Int → List Int
  | _, [], out => out
  | a, c :: cs, out => putB base n (a + 1) cs (put base n a c out)

def putL (base n : Int) : List (Int × List Int) → List Int → List Int
  | [], out => out
  | p :: l, out => putL base n l (putB base n p.1 p.2 out)

theorem put_len (base n a c : Int) (out : List Int) : (put base n a c out).length = out.length := by
  unfold put; split <;> simp

theorem putB_len (base n : Int) : ∀ (a : Int) (cs out : List Int), (putB base n a cs out).length = out.length
  | _, [], out => rfl
  | a, c :: cs, out => by rw [putB, putB_len base n (a + 1) cs, put_len]

theorem real_inner (N : Nat) (base n : Int) (l : List (Int × List Int)) (ll i : Int) (bs : List Int) (A : Int) (B : List Int) (hb : 0 ≤ base ∧ base ≤ 4294967295) (hn : 0 ≤ n ∧ n ≤ 1048576) (hA : 0 ≤ A ∧ A ≤ 4294967295) (hbs : bs.length ≤ 700) :
    ∀ (m k : Nat) (out : List Int), k ≤ bs.length → bs.length - k < m → (out.length : Int) = n →
      loopN (f12_hexfile_Flat_l8_S N) m (base, n, l, ll, i, bs, (bs.length : Int), (k : Int), out, A, B, ()) = some (base, n, l, ll, i, putB base n (A + k) (bs.drop k) out, ())
  | 0, k, out, _, h, _ => by omega
  | m + 1, k, out, hk, hm, ho => by
    have h0 : ltI (k : Int) (bs.length : Int) = decide (k < bs.length) := by rw [ltI_eq]; simp
    have e1 : IntKind.u64.wrap A = A := IntWalk.u64_in _ (by omega)
    have e2 : IntKind.u64.wrap (k : Int) = k := IntWalk.u64_in _ (by omega)
    have e3 : IntKind.u64.wrap (A + (k : Int)) = A + k := IntWalk.u64_in _ (by omega)
    have e4 : IntKind.u64.wrap base = base := IntWalk.u64_in _ (by omega)
    have e5 : IntKind.u64.wrap n = n := IntWalk.u64_in _ (by omega)
    have e6 : IntKind.i64.wrap ((k : Int) + 1) = ((k + 1 : Nat) : Int) := by rw [IntWalk.i64_in _ (by omega)]; rfl
    simp only [loopN, f12_hexfile_Flat_l8_S, f12_hexfile_Flat_l8_T, Tree.run, h0]
    by_cases hlt : k < bs.length
    · have b1 : inRange (k : Int) bs.length = true := by simp [inRange, leI_eq, ltI_eq, hlt]
      have g1 : bs.getD ((k : Int)).toNat 0 = bs[k] := by simp [hlt]
      have hd : bs.drop k = bs[k] :: bs.drop (k + 1) := List.drop_eq_getElem_cons hlt
      have step : ∀ out', out' = put base n (A + k) bs[k] out → loopN (f12_hexfile_Flat_l8_S N) m (base, n, l, ll, i, bs, (bs.length : Int), IntKind.i64.wrap ((k : Int) + 1), out', A, B, ()) = some (base, n, l, ll, i, putB base n (A + k) (bs.drop k) out, ()) := by
        intro out' e
        subst e
        have e8 : A + (k : Int) + 1 = A + ((k + 1 : Nat) : Int) := by omega
        rw [e6, real_inner N base n l ll i bs A B hb hn hA hbs m (k + 1) _ (by omega) (by omega) (by rw [put_len]; exact ho), hd, putB, e8]
      simp only [hlt, decide_true, b1, e1, e2, e3, e4, e5, g1]
      by_cases c1 : base ≤ A + k
      · have e7 : IntKind.u64.wrap (A + (k : Int) - base) = A + k - base := IntWalk.u64_in _ (by omega)
        have d1 : leI base (A + (k : Int)) = true := by rw [leI_eq]; simpa using c1
        simp only [d1, e7]
        by_cases c2 : A + (k : Int) - base < n
        · have d2 : ltI (A + (k : Int) - base) n = true := by rw [ltI_eq]; simpa using c2
          simp only [d2]
          by_cases c3 : A + (k : Int) < 4294967296
          · have d3 : ltI (A + (k : Int)) 4294967296 = true := by rw [ltI_eq]; simpa using c3
            have b2 : inRange (A + (k : Int) - base) out.length = true := by simp only [inRange, leI_eq, ltI_eq, Bool.and_eq_true, decide_eq_true_eq]; omega
            simp only [d3, f12_hexfile_Flat_j12, f12_hexfile_Flat_j12_T, Tree.run, e4, e7, b2]
            exact step _ (by rw [put, if_pos ⟨c1, c2, c3⟩])
          · have d3 : ltI (A + (k : Int)) 4294967296 = false := by rw [ltI_eq]; simpa using c3
            simp only [d3, f12_hexfile_Flat_j12, f12_hexfile_Flat_j12_T, Tree.run]
            exact step _ (by rw [put, if_neg (fun h => c3 h.2.2)])
        · have d2 : ltI (A + (k : Int) - base) n = false := by rw [ltI_eq]; simpa using c2
          simp only [d2, f12_hexfile_Flat_j12, f12_hexfile_Flat_j12_T, Tree.run]
          exact step _ (by rw [put, if_neg (fun h => c2 h.2.1)])
      · have d1 : leI base (A + (k : Int)) = false := by rw [leI_eq]; simpa using c1
        simp only [d1, f12_hexfile_Flat_j12, f12_hexfile_Flat_j12_T, Tree.run]
        exact step _ (by rw [put, if_neg (fun h => c1 h.1)])
    · have hk' : k = bs.length := by omega
      subst hk'
      simp only [hlt, decide_false, List.drop_length, putB]
      rfl

/-- What pieces may be here. -/
def Small (l : List (Int × List Int)) : Prop := ∀ p ∈ l, 0 ≤ p.1 ∧ p.1 ≤ 4294967295 ∧ p.2.length ≤ 700

theorem real_outer (N : Nat) (base n : Int) (l : List (Int × List Int)) (hb : 0 ≤ base ∧ base ≤ 4294967295) (hn : 0 ≤ n ∧ n ≤ 1048576) (hl : l.length ≤ 30) (hw : Small l) (hN : 700 < N) :
    ∀ (m i : Nat) (out : List Int), i ≤ l.length → l.length - i < m → (out.length : Int) = n →
      loopN (f12_hexfile_Flat_l5_S N) m (base, n, l, (l.length : Int), (i : Int), out, ()) = some (putL base n (l.drop i) out, ())
  | 0, i, out, _, h, _ => by omega
  | m + 1, i, out, hi, hm, ho => by
    have h0 : ltI (i : Int) (l.length : Int) = decide (i < l.length) := by rw [ltI_eq]; simp
    have e6 : IntKind.i64.wrap ((i : Int) + 1) = ((i + 1 : Nat) : Int) := by rw [IntWalk.i64_in _ (by omega)]; rfl
    simp only [loopN, f12_hexfile_Flat_l5_S, f12_hexfile_Flat_l5_T, Tree.run, h0]
    by_cases hlt : i < l.length
    · have b1 : inRange (i : Int) l.length = true := by simp [inRange, leI_eq, ltI_eq, hlt]
      have g1 : l.getD ((i : Int)).toNat (0, []) = l[i] := by simp [hlt]
      have hd : l.drop i = l[i] :: l.drop (i + 1) := List.drop_eq_getElem_cons hlt
      obtain ⟨w0, w1, w2⟩ := hw l[i] (List.getElem_mem hlt)
      have hin := real_inner N base n l (l.length : Int) (i : Int) l[i].2 l[i].1 l[i].2 hb hn ⟨w0, w1⟩ w2 N 0 out (by omega) (by omega) ho
      simp only [List.drop_zero] at hin
      rw [show l[i].1 + ((0 : Nat) : Int) = l[i].1 by simp, show ((0 : Nat) : Int) = 0 from rfl] at hin
      simp only [hlt, decide_true, b1, g1, f12_hexfile_Flat_l8, hin]
      show loopN (f12_hexfile_Flat_l5_S N) m (base, n, l, (l.length : Int), IntKind.i64.wrap ((i : Int) + 1), putB base n l[i].1 l[i].2 out, ()) = _
      rw [e6, real_outer N base n l hb hn hl hw hN m (i + 1) _ (by omega) (by omega) (by rw [putB_len]; exact ho), hd, putL]
    · have hi' : i = l.length := by omega
      subst hi'
      simp only [hlt, decide_false, List.drop_length, putL]
      rfl

/-- What both come to. -/
def flatOf (l : List (Int × List Int)) (base n : Int) : List Int := if n < 0 ∨ 1048576 < n then [] else putL base n l (List.replicate n.toNat 0)

theorem real_flat (N : Nat) (base n : Int) (l : List (Int × List Int)) (hb : 0 ≤ base ∧ base ≤ 4294967295) (hl : l.length ≤ 30) (hw : Small l) (hN : 700 < N) :
    f12_hexfile_Flat_F N (l, base, n, ()) = some (flatOf l base n, ()) := by
  simp only [f12_hexfile_Flat_F, f12_hexfile_Flat_T, Tree.run, ltI_eq, flatOf]
  by_cases h1 : n < 0
  · simp only [h1, decide_true, true_or, if_true]; rfl
  · simp only [h1, decide_false, false_or]
    by_cases h2 : 1048576 < n
    · simp only [h2, decide_true, if_true]; rfl
    · simp only [h2, decide_false, if_false]
      have c : (leI 0 n && (leI n n && (ltI (n * 1) 140737488355328 && ltI n 140737488355328))) = true := by
        simp only [leI_eq, ltI_eq, Bool.and_eq_true, decide_eq_true_eq]; omega
      have ho := real_outer N base n l hb ⟨by omega, by omega⟩ hl hw hN N 0 (List.replicate n.toNat 0) (by omega) (by omega) (by simp; omega)
      simp only [List.drop_zero] at ho
      rw [show ((0 : Nat) : Int) = 0 from rfl] at ho
      simp only [f12_hexfile_Flat_j3, f12_hexfile_Flat_j3_T, Tree.run, c, f12_hexfile_Flat_l5, ho]
      rfl

theorem ref_inner (N : Nat) (base n : Int) (l : List (Int × List Int)) (i : Nat) (hi : i < l.length) (hl : l.length ≤ 30) (hb : 0 ≤ base ∧ base ≤ 4294967295) (hn : 0 ≤ n ∧ n ≤ 1048576) (hA : 0 ≤ l[i].1 ∧ l[i].1 ≤ 4294967295) (hbs : l[i].2.length ≤ 700) :
    ∀ (m k : Nat) (out : List Int), k ≤ l[i].2.length → l[i].2.length - k < m → (out.length : Int) = n →
      loopN (f13_bautaref31_Flat_l9_S N) m (l, base, n, (i : Int), (k : Int), out, ()) = some (l, base, n, (i : Int), putB base n (l[i].1 + k) (l[i].2.drop k) out, ())
  | 0, k, out, _, h, _ => by omega
  | m + 1, k, out, hk, hm, ho => by
    have h0 : ltI (k : Int) (l[i].2.length : Int) = decide (k < l[i].2.length) := by rw [ltI_eq]; simp
    have b0 : inRange (i : Int) l.length = true := by simp [inRange, leI_eq, ltI_eq, hi]
    have g0 : l.getD ((i : Int)).toNat (0, []) = l[i] := by simp [hi]
    have e1 : IntKind.i64.wrap l[i].1 = l[i].1 := IntWalk.i64_in _ (by omega)
    have e3 : IntKind.i64.wrap (l[i].1 + (k : Int)) = l[i].1 + k := IntWalk.i64_in _ (by omega)
    have e4 : IntKind.i64.wrap base = base := IntWalk.i64_in _ (by omega)
    have e6 : IntKind.i64.wrap ((k : Int) + 1) = ((k + 1 : Nat) : Int) := by rw [IntWalk.i64_in _ (by omega)]; rfl
    have e7 : IntKind.i64.wrap (l[i].1 + (k : Int) - base) = l[i].1 + k - base := IntWalk.i64_in _ (by omega)
    simp only [loopN, f13_bautaref31_Flat_l9_S, f13_bautaref31_Flat_l9_T, Tree.run, b0, g0, h0]
    by_cases hlt : k < l[i].2.length
    · have b1 : inRange (k : Int) l[i].2.length = true := by simp [inRange, leI_eq, ltI_eq, hlt]
      have g1 : l[i].2.getD ((k : Int)).toNat 0 = l[i].2[k] := by simp [hlt]
      have hd : l[i].2.drop k = l[i].2[k] :: l[i].2.drop (k + 1) := List.drop_eq_getElem_cons hlt
      have step : ∀ out', out' = put base n (l[i].1 + k) l[i].2[k] out → loopN (f13_bautaref31_Flat_l9_S N) m (l, base, n, (i : Int), IntKind.i64.wrap ((k : Int) + 1), out', ()) = some (l, base, n, (i : Int), putB base n (l[i].1 + k) (l[i].2.drop k) out, ()) := by
        intro out' e
        subst e
        have e8 : l[i].1 + (k : Int) + 1 = l[i].1 + ((k + 1 : Nat) : Int) := by omega
        rw [e6, ref_inner N base n l i hi hl hb hn hA hbs m (k + 1) _ (by omega) (by omega) (by rw [put_len]; exact ho), hd, putB, e8]
      simp only [hlt, decide_true, e1, e3, e4, e7]
      by_cases c3 : l[i].1 + (k : Int) ≤ 4294967295
      · have d3 : leI (l[i].1 + (k : Int)) 4294967295 = true := by rw [leI_eq]; simpa using c3
        simp only [d3]
        by_cases c1 : base ≤ l[i].1 + k
        · have d1 : leI base (l[i].1 + (k : Int)) = true := by rw [leI_eq]; simpa using c1
          simp only [d1]
          by_cases c2 : l[i].1 + (k : Int) - base < n
          · have d2 : ltI (l[i].1 + (k : Int) - base) n = true := by rw [ltI_eq]; simpa using c2
            have b2 : inRange (l[i].1 + (k : Int) - base) out.length = true := by simp only [inRange, leI_eq, ltI_eq, Bool.and_eq_true, decide_eq_true_eq]; omega
            simp only [d2, f13_bautaref31_Flat_j13, f13_bautaref31_Flat_j13_T, Tree.run, e4, e7, b0, g0, b1, g1, b2]
            exact step _ (by rw [put, if_pos ⟨c1, c2, by omega⟩])
          · have d2 : ltI (l[i].1 + (k : Int) - base) n = false := by rw [ltI_eq]; simpa using c2
            simp only [d2, f13_bautaref31_Flat_j13, f13_bautaref31_Flat_j13_T, Tree.run]
            exact step _ (by rw [put, if_neg (fun h => c2 h.2.1)])
        · have d1 : leI base (l[i].1 + (k : Int)) = false := by rw [leI_eq]; simpa using c1
          simp only [d1, f13_bautaref31_Flat_j13, f13_bautaref31_Flat_j13_T, Tree.run]
          exact step _ (by rw [put, if_neg (fun h => c1 h.1)])
      · have d3 : leI (l[i].1 + (k : Int)) 4294967295 = false := by rw [leI_eq]; simpa using c3
        simp only [d3, f13_bautaref31_Flat_j13, f13_bautaref31_Flat_j13_T, Tree.run]
        exact step _ (by rw [put, if_neg (fun h => by omega)])
    · have hk' : k = l[i].2.length := by omega
      subst hk'
      simp only [hlt, decide_false, List.drop_length, putB]
      rfl

theorem ref_outer (N : Nat) (base n : Int) (l : List (Int × List Int)) (hb : 0 ≤ base ∧ base ≤ 4294967295) (hn : 0 ≤ n ∧ n ≤ 1048576) (hl : l.length ≤ 30) (hw : Small l) (hN : 700 < N) :
    ∀ (m i : Nat) (out : List Int), i ≤ l.length → l.length - i < m → (out.length : Int) = n →
      loopN (f13_bautaref31_Flat_l6_S N) m (l, base, n, (i : Int), out, ()) = some (putL base n (l.drop i) out, ())
  | 0, i, out, _, h, _ => by omega
  | m + 1, i, out, hi, hm, ho => by
    have h0 : ltI (i : Int) (l.length : Int) = decide (i < l.length) := by rw [ltI_eq]; simp
    have e6 : IntKind.i64.wrap ((i : Int) + 1) = ((i + 1 : Nat) : Int) := by rw [IntWalk.i64_in _ (by omega)]; rfl
    simp only [loopN, f13_bautaref31_Flat_l6_S, f13_bautaref31_Flat_l6_T, Tree.run, h0]
    by_cases hlt : i < l.length
    · have hd : l.drop i = l[i] :: l.drop (i + 1) := List.drop_eq_getElem_cons hlt
      obtain ⟨w0, w1, w2⟩ := hw l[i] (List.getElem_mem hlt)
      have hin := ref_inner N base n l i hlt hl hb hn ⟨w0, w1⟩ w2 N 0 out (by omega) (by omega) ho
      simp only [List.drop_zero] at hin
      rw [show l[i].1 + ((0 : Nat) : Int) = l[i].1 by simp, show ((0 : Nat) : Int) = 0 from rfl] at hin
      simp only [hlt, decide_true, f13_bautaref31_Flat_l9, hin]
      show loopN (f13_bautaref31_Flat_l6_S N) m (l, base, n, IntKind.i64.wrap ((i : Int) + 1), putB base n l[i].1 l[i].2 out, ()) = _
      rw [e6, ref_outer N base n l hb hn hl hw hN m (i + 1) _ (by omega) (by omega) (by rw [putB_len]; exact ho), hd, putL]
    · have hi' : i = l.length := by omega
      subst hi'
      simp only [hlt, decide_false, List.drop_length, putL]
      rfl

theorem ref_flat (N : Nat) (base n : Int) (l : List (Int × List Int)) (hb : 0 ≤ base ∧ base ≤ 4294967295) (hl : l.length ≤ 30) (hw : Small l) (hN : 700 < N) :
    f13_bautaref31_Flat_F N (l, base, n, ()) = some (flatOf l base n, ()) := by
  simp only [f13_bautaref31_Flat_F, f13_bautaref31_Flat_T, Tree.run, ltI_eq, flatOf]
  by_cases h1 : n < 0
  · simp only [h1, decide_true, true_or, if_true]; rfl
  · simp only [h1, decide_false, false_or]
    by_cases h2 : 1048576 < n
    · simp only [h2, decide_true, if_true]; rfl
    · simp only [h2, decide_false, if_false]
      have c : (leI 0 n && (leI n n && (ltI (n * 1) 140737488355328 && ltI n 140737488355328))) = true := by
        simp only [leI_eq, ltI_eq, Bool.and_eq_true, decide_eq_true_eq]; omega
      have ho := ref_outer N base n l hb ⟨by omega, by omega⟩ hl hw hN N 0 (List.replicate n.toNat 0) (by omega) (by omega) (by simp; omega)
      simp only [List.drop_zero] at ho
      rw [show ((0 : Nat) : Int) = 0 from rfl] at ho
      simp only [f13_bautaref31_Flat_j4, f13_bautaref31_Flat_j4_T, Tree.run, c, f13_bautaref31_Flat_l6, ho]
      rfl

theorem short_is (N : Nat) (b : List Int) : f11_bautalaw31_short_F N (b, ()) = some (b.take 700, ()) := by
  have h0 : ltI 700 (b.length : Int) = decide (700 < b.length) := by rw [ltI_eq]; simp; omega
  simp only [f11_bautalaw31_short_F, f11_bautalaw31_short_T, Tree.run, h0]
  by_cases h : 700 < b.length
  · have c1 : (leI 0 700 && leI 700 (b.length : Int)) = true := by simp [leI_eq]; omega
    have c2 : ltI ((0 + ((b.take 700).length : Int)) * 1) 140737488355328 = true := by rw [ltI_eq]; simp only [List.length_take, decide_eq_true_eq]; omega
    simp only [h, decide_true, c1, c2]; rfl
  · have c2 : ltI ((0 + (b.length : Int)) * 1) 140737488355328 = true := by rw [ltI_eq]; simp only [decide_eq_true_eq]; omega
    have e : b.take 700 = b := List.take_of_length_le (by omega)
    simp only [h, decide_false, c2, e]; rfl

/-- A piece, cut short. -/
def cut (p : Int × List Int) : Int × List Int := (p.1, p.2.take 700)

theorem own_loop (N : Nat) (l : List (Int × List Int)) (base n : Int) (hl : l.length ≤ 30) : ∀ (m i : Nat) (out : List (Int × List Int)), i ≤ l.length → l.length - i < m → out.length = i →
    loopN (f4_bautalaw31_HexfileFlats_l5_S N) m (l, base, n, (i : Int), out, ()) = some (base, n, out ++ (l.drop i).map cut, ())
  | 0, i, out, _, h, _ => by omega
  | m + 1, i, out, hi, hm, ho => by
    have h0 : ltI (i : Int) (l.length : Int) = decide (i < l.length) := by rw [ltI_eq]; simp
    have e6 : IntKind.i64.wrap ((i : Int) + 1) = ((i + 1 : Nat) : Int) := by rw [IntWalk.i64_in _ (by omega)]; rfl
    simp only [loopN, f4_bautalaw31_HexfileFlats_l5_S, f4_bautalaw31_HexfileFlats_l5_T, Tree.run, h0]
    by_cases hlt : i < l.length
    · have b1 : inRange (i : Int) l.length = true := by simp [inRange, leI_eq, ltI_eq, hlt]
      have g1 : l.getD ((i : Int)).toNat (0, []) = l[i] := by simp [hlt]
      have hd : l.drop i = l[i] :: l.drop (i + 1) := List.drop_eq_getElem_cons hlt
      have c1 : ltI (((out.length : Int) + 1) * 32) 140737488355328 = true := by rw [ltI_eq]; simp only [decide_eq_true_eq]; omega
      simp only [hlt, decide_true, b1, g1]
      erw [short_is N l[i].2]
      show (match ltI (((out.length : Int) + 1) * 32) 140737488355328 with
        | true => loopN (f4_bautalaw31_HexfileFlats_l5_S N) m (l, base, n, IntKind.i64.wrap ((i : Int) + 1), out ++ [cut l[i]], ())
        | false => none) = _
      simp only [c1]
      rw [e6, own_loop N l base n hl m (i + 1) _ (by omega) (by omega) (by simp [ho]), hd]
      simp only [List.map_cons, List.append_assoc, List.cons_append, List.nil_append]
      rfl
    · have hi' : i = l.length := by omega
      subst hi'
      simp only [hlt, decide_false, List.drop_length, List.map_nil, List.append_nil]
      rfl

theorem same_flat (N : Nat) (base n : Int) (l : List (Int × List Int)) (hb : 0 ≤ base ∧ base ≤ 4294967295) (hl : l.length ≤ 30) (hw : Small l) (hN : 700 < N) :
    f4_bautalaw31_HexfileFlats_j10 N (base, n, l, ()) = some (true, ()) := by
  simp only [f4_bautalaw31_HexfileFlats_j10, f4_bautalaw31_HexfileFlats_j10_T, Tree.run, real_flat N base n l hb hl hw hN, ref_flat N base n l hb hl hw hN]
  show (match ((bytesS (flatOf l base n)).toList == (bytesS (flatOf l base n)).toList) with
    | true => _
    | false => _) = _
  rw [beq_self_eq_true]
  rfl

theorem law_short (N : Nat) (l : List (Int × List Int)) (base n : Int) (hb : 0 ≤ base ∧ base ≤ 4294967295) (hl : l.length ≤ 30) (hw : ∀ p ∈ l, 0 ≤ p.1 ∧ p.1 ≤ 4294967295) (hN : 700 < N) :
    f4_bautalaw31_HexfileFlats_j3 N (l, base, n, ()) = some (true, ()) := by
  have ho := own_loop N l base n hl N 0 [] (by omega) (by omega) rfl
  rw [show ((0 : Nat) : Int) = 0 from rfl] at ho
  have hs : Small (l.map cut) := by
    intro p hp
    obtain ⟨q, hq, rfl⟩ := List.mem_map.1 hp
    exact ⟨(hw q hq).1, (hw q hq).2, by simp only [cut, List.length_take]; omega⟩
  have key : ∀ n', f4_bautalaw31_HexfileFlats_j10 N (base, n', l.map cut, ()) = some (true, ()) := fun n' => same_flat N base n' _ hb (by simpa using hl) hs hN
  simp only [f4_bautalaw31_HexfileFlats_j3, f4_bautalaw31_HexfileFlats_j3_T, Tree.run, f4_bautalaw31_HexfileFlats_l5, ho]
  show (match ltI 3000 n with
    | true => (match leI n 1048576 with
      | true => (f4_bautalaw31_HexfileFlats_j10 N (base, n.tmod 3000, l.map cut, ())).bind _
      | false => (f4_bautalaw31_HexfileFlats_j10 N (base, n, l.map cut, ())).bind _)
    | false => (f4_bautalaw31_HexfileFlats_j10 N (base, n, l.map cut, ())).bind _) = _
  rw [key, key]
  cases ltI 3000 n
  · rfl
  · cases leI n 1048576 <;> rfl

theorem law_holds (l : List (Int × List Int)) (hl : WF (.list (.prod (.int .u32) (.list (.int .u8)))) l) (base : Int) (hb : WF (.int .u32) base) (n : Int) (hn : WF (.int .i64) n) :
    f4_bautalaw31_HexfileFlats_F 701 (l, base, n, ()) = some (true, ()) := by
  have hb' : 0 ≤ base ∧ base ≤ 4294967295 := by
    simp only [WF, Lit.wf, Bool.and_eq_true, decide_eq_true_eq] at hb
    exact hb
  have hw : ∀ p ∈ l, 0 ≤ p.1 ∧ p.1 ≤ 4294967295 := by
    intro p hp
    have := (hl.2 p hp).1
    simp only [WF, Lit.wf, Bool.and_eq_true, decide_eq_true_eq] at this
    exact this
  simp only [f4_bautalaw31_HexfileFlats_F, f4_bautalaw31_HexfileFlats_T, Tree.run, ltI_eq, leI_eq]
  by_cases h : (30 : Int) < l.length
  · have c1 : (decide ((0 : Int) ≤ 30) && decide ((30 : Int) ≤ l.length)) = true := by simp; omega
    simp only [h, decide_true, c1, law_short 701 (l.take 30) base n hb' (by simp; omega) (fun p hp => hw p (List.mem_of_mem_take hp)) (by omega)]
    rfl
  · simp only [h, decide_false, law_short 701 l base n hb' (by omega) hw (by omega)]
    rfl
end Go.Proofs.YtoahoagfkpfhnaaV
