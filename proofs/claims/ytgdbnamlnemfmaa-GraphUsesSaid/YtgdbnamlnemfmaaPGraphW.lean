/- Graphs' words: both functions. -/
import Derived.Test.YtgdbnamlnemfmaaPGraphL
import Derived.Test.YtgdbnamlnemfmaaPWordsR
namespace Go.Proofs.YtgdbnamlnemfmaaV
set_option linter.unusedVariables false
set_option linter.unusedSimpArgs false

theorem short_is (N : Nat) (l : List Int) : bautalaw20_short N l = some (l.take 100) := by
  simp only [bautalaw20_short, bautalaw20_short_T, run_br, run_ret, ltI_eq, leI_eq, decide_eq_true_eq, Bool.and_eq_true]
  by_cases h1 : (100 : Int) < l.length
  · rw [if_pos h1, if_pos (by omega), if_pos (by simp only [List.length_take]; omega)]
  · rw [if_neg h1, if_pos (by omega), List.take_of_length_le (by omega)]

theorem short_le (l : List Int) : (l.take 100).length ≤ 100 := by simp only [List.length_take]; omega

def gwords (S P : List Int) (gs : List Gate) (s p : Int) (os : List GOut) : List Int := if GCan gs s p os then (if CanOK (asK 8 gs) s p os then nats (wv S P (asK 8 gs)) else []) else []

theorem gwords_len (S P : List Int) (gs : List Gate) (s p : Int) (os : List GOut) : (gwords S P gs s p os).length ≤ gs.length := by
  unfold gwords
  split
  · split
    · rw [nats_len, wv_len, asK_len]; exact Nat.le_refl _
    · simp
  · simp

theorem real_gwords (N : Nat) (gs : List Gate) (s p : Int) (os : List GOut) (S P : List Int) (hS : WdL S) (hP : WdL P) (hSl : S.length ≤ 1000000) (hPl : P.length ≤ 1000000) (hw : Wds gs) (hl : gs.length ≤ 8000) (ho : os.length ≤ 8000) (hN : 9000 < N) :
    graph_Words N gs s p os S P = some (gwords S P gs s p os) := by
  simp only [graph_Words, graph_Words_T, circ_Words, circ_Words_T, run_br, run_call, run_ret, real_gcan N gs s p os hw hl ho hN, with_is N gs 8 hw (by omega) hN, rwords_is N (asK 8 gs) s p os S P hS hP hSl hPl (as_wds hw 8) ho (by omega), Option.bind_some, gwords]
  by_cases hc : GCan gs s p os <;> simp [hc]

theorem ref_gwords (N : Nat) (gs : List Gate) (s p : Int) (os : List GOut) (S P : List Int) (hS : WdL S) (hP : WdL P) (hw : Wds gs) (hl : gs.length ≤ 8000) (ho : os.length ≤ 8000) (hN : 9000 < N) :
    bautaref20_Words N gs s p os S P = some (gwords S P gs s p os) := by
  simp only [bautaref20_Words, bautaref20_Words_T, run_br, run_call, run_ret, ref_gcan N gs s p os hw hl ho hN, as_is N gs os 8 (by omega) (by omega) hN, words_is N (asK 8 gs) s p os S P hS hP (as_wds hw 8) ho (by omega), Option.bind_some, gwords]
  by_cases hc : GCan gs s p os <;> simp [hc]
end Go.Proofs.YtgdbnamlnemfmaaV
