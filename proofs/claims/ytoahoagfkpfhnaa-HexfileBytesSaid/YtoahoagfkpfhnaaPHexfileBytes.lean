/- The plain law of HexfileBytes. -/
import Derived.Test.YtoahoagfkpfhnaaHexfileBytesd
import Derived.IntWalk
namespace Go.Proofs.YtoahoagfkpfhnaaV
open Go.RowKit
set_option linter.unusedVariables false
set_option linter.unusedSimpArgs false

def two (h : Int) : List Int := [IntKind.u8.wrap h, IntKind.u8.wrap (h.fdiv (2 ^ 8))]

theorem bytes_loop (N : Nat) (xs : List Int) (hx : xs.length ≤ 1000) : ∀ (n i : Nat) (out : List Int), i ≤ xs.length → xs.length - i < n → out.length = 2 * i →
    loopN (f9_hexfile_Bytes_l3_S N) n (xs, (xs.length : Int), (i : Int), out, ()) = some (out ++ (xs.drop i).flatMap two, ())
  | 0, i, out, _, h, _ => by omega
  | n + 1, i, out, hi, hn, ho => by
    have h0 : ltI (i : Int) (xs.length : Int) = decide (i < xs.length) := by rw [ltI_eq]; simp
    simp only [loopN, f9_hexfile_Bytes_l3_S, f9_hexfile_Bytes_l3_T, Tree.run]
    by_cases hlt : i < xs.length
    · have h2 : inRange (i : Int) xs.length = true := by simp [inRange, leI_eq, ltI_eq, hlt]
      have h3 : ltI (((out.length : Int) + 2) * 1) 140737488355328 = true := by rw [ltI_eq]; simp; omega
      have h4 : IntKind.i64.wrap ((i : Int) + 1) = ((i + 1 : Nat) : Int) := by rw [IntWalk.i64_in _ (by omega)]; rfl
      rw [h0]
      simp only [hlt, decide_true, h2, h3, h4]
      rw [bytes_loop N xs hx n (i + 1) _ (by omega) (by omega) (by simp [ho]; omega)]
      rw [List.drop_eq_getElem_cons hlt, List.flatMap_cons]
      simp [two, List.getD, hlt]
      rfl
    · have : i = xs.length := by omega
      subst this
      rw [h0]
      simp
      rfl

theorem bytes_is (N : Nat) (xs : List Int) (hx : xs.length ≤ 1000) (hN : 1000 < N) : f9_hexfile_Bytes_F N (xs, ()) = some (xs.flatMap two, ()) := by
  have := bytes_loop N xs hx N 0 [] (by omega) (by omega) rfl
  simp only [f9_hexfile_Bytes_F, f9_hexfile_Bytes_T, f9_hexfile_Bytes_l3, Tree.run]
  rw [show ((0 : Nat) : Int) = 0 from rfl] at this
  rw [this]
  rfl

theorem two_get : ∀ (xs : List Int) (i : Nat) (h : i < xs.length), (xs.flatMap two).getD (2 * i) 0 = IntKind.u8.wrap xs[i] ∧ (xs.flatMap two).getD (2 * i + 1) 0 = IntKind.u8.wrap (xs[i].fdiv (2 ^ 8))
  | [], i, h => by simp at h
  | x :: l, 0, h => by simp [two]
  | x :: l, i + 1, h => by
    have ih := two_get l i (by simpa using h)
    have e1 : 2 * (i + 1) = 2 * i + 2 := by omega
    simp only [List.flatMap_cons, two, e1, List.cons_append, List.nil_append, List.getElem_cons_succ]
    exact ih

theorem two_len : ∀ xs : List Int, (xs.flatMap two).length = 2 * xs.length
  | [] => rfl
  | x :: l => by
    have ih := two_len l
    simp only [List.flatMap_cons, List.length_append, ih, List.length_cons]
    simp [two]; omega

theorem halves (h : Int) (h0 : 0 ≤ h) (h1 : h ≤ 65535) : IntKind.i64.wrap (IntKind.i64.wrap (IntKind.u8.wrap h) + IntKind.i64.wrap (256 * IntKind.i64.wrap (IntKind.u8.wrap (h.fdiv (2 ^ 8))))) = IntKind.i64.wrap h := by
  have e : h.fdiv (2 ^ 8) = h / 256 := by rw [Int.fdiv_eq_ediv_of_nonneg _ (by decide)]; rfl
  rw [e]
  simp only [IntKind.wrap_u8]
  rw [IntWalk.i64_in (h % 256) (by omega), IntWalk.i64_in (h / 256 % 256) (by omega), IntWalk.i64_in (256 * (h / 256 % 256)) (by omega)]
  congr 1
  omega

theorem check_loop (N : Nat) (xs : List Int) (hx : xs.length ≤ 1000) (hw : ∀ x ∈ xs, 0 ≤ x ∧ x ≤ 65535) : ∀ (n i : Nat), i ≤ xs.length → xs.length - i < n →
    loopN (f3_bautalaw31_HexfileBytes_l7_S N) n (xs, (i : Int), xs.flatMap two, ()) = some (.inr ())
  | 0, i, _, h => by omega
  | n + 1, i, hi, hn => by
    have h0 : ltI (i : Int) (xs.length : Int) = decide (i < xs.length) := by rw [ltI_eq]; simp
    simp only [loopN, f3_bautalaw31_HexfileBytes_l7_S, f3_bautalaw31_HexfileBytes_l7_T, Tree.run]
    rw [h0]
    by_cases hlt : i < xs.length
    · have a1 : IntKind.i64.wrap (2 * (i : Int)) = ((2 * i : Nat) : Int) := by rw [IntWalk.i64_in _ (by omega)]; simp
      have a2 : IntKind.i64.wrap (((2 * i : Nat) : Int) + 1) = ((2 * i + 1 : Nat) : Int) := by rw [IntWalk.i64_in _ (by omega)]; simp
      have a3 : IntKind.i64.wrap ((i : Int) + 1) = ((i + 1 : Nat) : Int) := by rw [IntWalk.i64_in _ (by omega)]; simp
      have hl := two_len xs
      have b1 : inRange ((2 * i : Nat) : Int) (xs.flatMap two).length = true := by rw [hl]; simp [inRange, leI_eq, ltI_eq]; omega
      have b2 : inRange ((2 * i + 1 : Nat) : Int) (xs.flatMap two).length = true := by rw [hl]; simp [inRange, leI_eq, ltI_eq]; omega
      have b3 : inRange (i : Int) xs.length = true := by simp [inRange, leI_eq, ltI_eq]; omega
      obtain ⟨g1, g2⟩ := two_get xs i hlt
      have g3 : xs.getD i 0 = xs[i] := by simp [hlt]
      obtain ⟨w0, w1⟩ := hw xs[i] (List.getElem_mem hlt)
      simp only [hlt, decide_true, a1, a2, a3, b1, b2, b3, Int.toNat_natCast, g1, g2, g3, halves _ w0 w1, bne_self_eq_false]
      exact check_loop N xs hx hw n (i + 1) (by omega) (by omega)
    · simp only [hlt, decide_false]

theorem law_short (N : Nat) (xs : List Int) (hx : xs.length ≤ 1000) (hw : ∀ x ∈ xs, 0 ≤ x ∧ x ≤ 65535) (hN : 1000 < N) : f3_bautalaw31_HexfileBytes_j3 N (xs, ()) = some (true, ()) := by
  have c1 : ltI ((0 + (xs.length : Int)) * 2) 140737488355328 = true := by rw [ltI_eq]; simp; omega
  have c2 : IntKind.i64.wrap (2 * (xs.length : Int)) = ((2 * xs.length : Nat) : Int) := by rw [IntWalk.i64_in _ (by omega)]; simp
  have hl := two_len xs
  have hc := check_loop N xs hx hw N 0 (by omega) (by omega)
  rw [show ((0 : Nat) : Int) = 0 from rfl] at hc
  simp only [f3_bautalaw31_HexfileBytes_j3, f3_bautalaw31_HexfileBytes_j3_T, Tree.run, c1, bytes_is N xs hx hN, c2, f3_bautalaw31_HexfileBytes_l7]
  show (match (((xs.flatMap two).length : Int) != ((2 * xs.length : Nat) : Int)) with
    | true => _
    | false => _) = _
  rw [hl, bne_self_eq_false]
  show (loopN (f3_bautalaw31_HexfileBytes_l7_S N) N (xs, 0, xs.flatMap two, ())).bind _ = _
  rw [hc]
  rfl

theorem law_holds (xs : List Int) (hw : WF (.list (.int .u16)) xs) : f3_bautalaw31_HexfileBytes_F 1001 (xs, ()) = some (true, ()) := by
  have hw' : ∀ x ∈ xs, 0 ≤ x ∧ x ≤ 65535 := by
    intro x hx
    have := hw.2 x hx
    simp only [WF, Lit.wf, Bool.and_eq_true, decide_eq_true_eq] at this
    exact this
  have h0 : ltI 1000 (xs.length : Int) = decide (1000 < xs.length) := by rw [ltI_eq]; simp; omega
  simp only [f3_bautalaw31_HexfileBytes_F, f3_bautalaw31_HexfileBytes_T, Tree.run, h0]
  by_cases h : 1000 < xs.length
  · have c : (leI 0 1000 && leI 1000 (xs.length : Int)) = true := by simp [leI_eq]; omega
    simp only [h, decide_true, c, law_short 1001 (xs.take 1000) (by simp; omega) (fun x hx => hw' x (List.mem_of_mem_take hx)) (by omega)]
    rfl
  · simp only [h, decide_false, law_short 1001 xs (by omega) hw' (by omega)]
    rfl
end Go.Proofs.YtoahoagfkpfhnaaV
