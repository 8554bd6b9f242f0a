/- A list whose elements change places within a range. -/
import Derived.Test.YtkcimijkcmoonaaDoorPTS
namespace Go.Proofs.YtkcimijkcmoonaaDoorV
set_option linter.unusedVariables false
set_option linter.unusedSimpArgs false

def at0 (l : List Int) (i : Int) : Int := l.getD i.toNat 0
def swp (l : List Int) (i j : Int) : List Int := (l.set i.toNat (at0 l j)).set j.toNat (at0 l i)

theorem swp_len (l : List Int) (i j : Int) : (swp l i j).length = l.length := by simp [swp]
theorem swp_at {l : List Int} {i j k : Int} (hi : 0 ≤ i) (hi' : i < l.length) (hj : 0 ≤ j) (hj' : j < l.length) (hk : 0 ≤ k) :
    at0 (swp l i j) k = if k = j then at0 l i else if k = i then at0 l j else at0 l k := by
  unfold swp at0
  by_cases h1 : k = j
  · subst h1
    rw [if_pos rfl, getD_set_eq]
    simp; omega
  · rw [if_neg h1, getD_set_ne _ _ _ (by omega)]
    by_cases h2 : k = i
    · subst h2
      rw [if_pos rfl, getD_set_eq]
      omega
    · rw [if_neg h2, getD_set_ne _ _ _ (by omega)]
theorem swp_perm {l : List Int} {i j : Int} (hi : 0 ≤ i) (hi' : i < l.length) (hj : 0 ≤ j) (hj' : j < l.length) : (swp l i j).Perm l := by
  have h1 : i.toNat < l.length := by omega
  have h2 : j.toNat < l.length := by omega
  have e : swp l i j = (l.set i.toNat l[j.toNat]).set j.toNat l[i.toNat] := by
    unfold swp at0
    rw [getD_nat l _ 0 h1, getD_nat l _ 0 h2]
  rw [e]
  exact List.set_set_perm h1 h2

/-- Places within a..b are exchanged, some times. -/
inductive Sw (a b : Int) : List Int → List Int → Prop
  | refl (l : List Int) : Sw a b l l
  | step {l l' : List Int} (i j : Int) (h : Sw a b l l') (hi : a ≤ i ∧ i < b) (hj : a ≤ j ∧ j < b) : Sw a b l (swp l' i j)

theorem Sw.len {a b : Int} {l l' : List Int} (h : Sw a b l l') : l'.length = l.length := by
  induction h with
  | refl => rfl
  | step i j h hi hj ih => rw [swp_len, ih]
theorem Sw.trans {a b : Int} {l l' l'' : List Int} (h : Sw a b l l') (h' : Sw a b l' l'') : Sw a b l l'' := by
  induction h' with
  | refl => exact h
  | step i j _ hi hj ih => exact .step i j ih hi hj
theorem Sw.mono {a b a' b' : Int} {l l' : List Int} (h : Sw a b l l') (ha : a' ≤ a) (hb : b ≤ b') : Sw a' b' l l' := by
  induction h with
  | refl => exact .refl _
  | step i j _ hi hj ih => exact .step i j ih ⟨by omega, by omega⟩ ⟨by omega, by omega⟩
theorem Sw.one {a b : Int} (l : List Int) (i j : Int) (hi : a ≤ i ∧ i < b) (hj : a ≤ j ∧ j < b) : Sw a b l (swp l i j) := .step i j (.refl l) hi hj

section
variable {a b : Int} {l l' : List Int} (ha : 0 ≤ a) (hb : b ≤ l.length)
include ha hb
theorem Sw.frame (h : Sw a b l l') {k : Int} (hk : 0 ≤ k) (ho : k < a ∨ b ≤ k) : at0 l' k = at0 l k := by
  induction h with
  | refl => rfl
  | step i j h hi hj ih =>
    have := h.len
    rw [swp_at (by omega) (by omega) (by omega) (by omega) hk, if_neg (by omega), if_neg (by omega)]
    exact ih
theorem Sw.all (h : Sw a b l l') {P : Int → Prop} (hp : ∀ k, a ≤ k → k < b → P (at0 l k)) : ∀ k, a ≤ k → k < b → P (at0 l' k) := by
  induction h with
  | refl => exact hp
  | step i j h hi hj ih =>
    intro k h1 h2
    have := h.len
    rw [swp_at (by omega) (by omega) (by omega) (by omega) (by omega)]
    split
    · exact ih i hi.1 hi.2
    · split
      · exact ih j hj.1 hj.2
      · exact ih k h1 h2
theorem Sw.perm (h : Sw a b l l') : l'.Perm l := by
  induction h with
  | refl => exact .refl _
  | step i j h hi hj ih =>
    have := h.len
    exact (swp_perm (by omega) (by omega) (by omega) (by omega)).trans ih
end

/-- It rises from a to b. -/
def Sd (a b : Int) (l : List Int) : Prop := ∀ i j, a ≤ i → i ≤ j → j < b → at0 l i ≤ at0 l j

/-- What stands ahead of the range is not greater than what stands in it. -/
def LB (a b : Int) (l : List Int) : Prop := 0 < a → ∀ k, a ≤ k → k < b → at0 l (a - 1) ≤ at0 l k

/-- The steps of a swap that is written out. -/
theorem swap_ts {α : Type} {l : List Int} {i j : Int} {f : List Int → Tree α} {Q : α → Prop} (hi : 0 ≤ i ∧ i < l.length) (hj : 0 ≤ j ∧ j < l.length) (h : TS (f (swp l i j)) Q) :
    TS (.br (inRange j l.length) (.br (inRange i l.length) (.br (inRange i l.length) (.br (inRange j (l.set i.toNat (l.getD j.toNat 0)).length) (f ((l.set i.toNat (l.getD j.toNat 0)).set j.toNat (l.getD i.toNat 0))) .fail) .fail) .fail) .fail) Q := by
  refine TS.brT (by rw [inRange_iff]; exact hj) (TS.brT (by rw [inRange_iff]; exact hi) (TS.brT (by rw [inRange_iff]; exact hi) (TS.brT (by rw [inRange_iff, List.length_set]; exact hj) ?_)))
  exact h
end Go.Proofs.YtkcimijkcmoonaaDoorV
