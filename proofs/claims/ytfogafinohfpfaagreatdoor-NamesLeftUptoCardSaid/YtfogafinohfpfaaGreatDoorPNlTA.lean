/- Trees: how many nodes they have, how deep they are. -/
import Derived.Test.YtfogafinohfpfaaGreatDoorNLd
import Derived.Test.YtfogafinohfpfaaGreatDoorPTS
namespace Go.Proofs.YtfogafinohfpfaaGreatDoorV
set_option linter.unusedVariables false
set_option linter.unusedSimpArgs false

abbrev nd0 : Node := .mk 0 ByteArray.empty 0 0 [] []

/-! ### How many, how deep -/
mutual
def cntN : Node → Nat
  | .mk _ _ _ _ l _ => 1 + cntL l
def cntL : List Node → Nat
  | [] => 0
  | x :: l => cntN x + cntL l
end
mutual
def depN : Node → Nat
  | .mk _ _ _ _ l _ => 1 + depL l
def depL : List Node → Nat
  | [] => 0
  | x :: l => max (depN x) (depL l)
end
theorem cntN_eq (x : Node) : cntN x = 1 + cntL x.l := by cases x; rw [cntN]; rfl
theorem depN_eq (x : Node) : depN x = 1 + depL x.l := by cases x; rw [depN]; rfl
theorem cntN_pos (x : Node) : 0 < cntN x := by rw [cntN_eq]; omega
theorem cntL_append : ∀ a b : List Node, cntL (a ++ b) = cntL a + cntL b
  | [], b => by simp [cntL]
  | x :: a, b => by simp only [List.cons_append, cntL, cntL_append a b]; omega
theorem depL_append : ∀ a b : List Node, depL (a ++ b) = max (depL a) (depL b)
  | [], b => by simp [depL]
  | x :: a, b => by simp only [List.cons_append, depL, depL_append a b]; omega
theorem len_cntL : ∀ l : List Node, l.length ≤ cntL l
  | [] => by simp [cntL]
  | x :: l => by have := cntN_pos x; have := len_cntL l; simp only [cntL, List.length_cons]; omega
theorem cnt_mem : ∀ {l : List Node} {x : Node}, x ∈ l → cntN x ≤ cntL l
  | [], _, h => by cases h
  | y :: l, x, h => by
    simp only [cntL]
    rcases List.mem_cons.1 h with rfl | h
    · omega
    · have := cnt_mem h; omega
theorem dep_mem : ∀ {l : List Node} {x : Node}, x ∈ l → depN x ≤ depL l
  | [], _, h => by cases h
  | y :: l, x, h => by
    simp only [depL]
    rcases List.mem_cons.1 h with rfl | h
    · omega
    · have := dep_mem h; omega
theorem takeS {α : Type} (l : List α) (d : α) {i : Nat} (h : i < l.length) : l.take (i + 1) = l.take i ++ [l.getD i d] := by
  rw [List.take_add_one, List.getElem?_eq_getElem h]
  simp [List.getD, List.getElem?_eq_getElem h]
theorem getD_memT {α : Type} (l : List α) (d : α) {i : Nat} (h : i < l.length) : l.getD i d ∈ l := by
  simp [List.getD, List.getElem?_eq_getElem h]
theorem cntL_take (l : List Node) {i : Nat} (h : i < l.length) : cntL (l.take (i + 1)) = cntL (l.take i) + cntN (l.getD i nd0) := by
  rw [takeS l nd0 h, cntL_append]; simp [cntL]
theorem depL_take (l : List Node) {i : Nat} (h : i < l.length) : depL (l.take (i + 1)) = max (depL (l.take i)) (depN (l.getD i nd0)) := by
  rw [takeS l nd0 h, depL_append]; simp [depL]
end Go.Proofs.YtfogafinohfpfaaGreatDoorV
