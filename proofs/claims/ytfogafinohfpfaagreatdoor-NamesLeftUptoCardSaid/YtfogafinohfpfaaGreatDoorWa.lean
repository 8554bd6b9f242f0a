/- Plain words about trees, rounds and whole numbers: nothing of the machine. -/
import Derived.Test.YtfogafinohfpfaaGreatDoorVx
import Derived.IntWalk
namespace Go.Proofs.YtfogafinohfpfaaGreatDoorV
set_option linter.unusedVariables false
set_option linter.unusedSimpArgs false

/-! ### Trees -/
theorem run_ret {α R : Type} (a : α) (k : α → Option R) : (Tree.ret a).run k = k a := rfl
theorem run_fail {α R : Type} (k : α → Option R) : (Tree.fail : Tree α).run k = none := rfl
theorem run_br {α R : Type} (c : Bool) (x y : Tree α) (k : α → Option R) : (Tree.br c x y).run k = if c = true then x.run k else y.run k := by cases c <;> rfl
theorem run_or {α R : Type} (x y : Tree α) (k : α → Option R) : (Tree.any x y).run k = anyR (x.run k) (y.run k) := rfl
theorem run_call {α R Y : Type} (o : Option Y) (f : Y → Tree α) (k : α → Option R) : (Tree.call o f).run k = o.bind fun y => (f y).run k := rfl
theorem run_inl {α R A B : Type} (a : A) (f : A → Tree α) (g : B → Tree α) (k : α → Option R) : (Tree.alt (.inl a) f g).run k = (f a).run k := rfl
theorem run_inr {α R A B : Type} (b : B) (f : A → Tree α) (g : B → Tree α) (k : α → Option R) : (Tree.alt (.inr b) f g).run k = (g b).run k := rfl

theorem run_any {α R : Type} {t : Tree α} {a : α} (h : t.run some = some a) (k : α → Option R) : t.run k = k a := by
  exact Tree.run_mono (fun b hb => by cases hb; rfl) t h

attribute [simp] run_ret run_fail run_br run_or run_call run_inl run_inr ltI_eq leI_eq

/-! ### Rounds -/
theorem loop_st {ι X Y : Type} {s : X → Tree (X ⊕ Y)} (st : ι → X) (μ : ι → Nat) (I : ι → Prop) (R : ι → Y)
    (h : ∀ i, I i → (∃ j, (s (st i)).run some = some (.inl (st j)) ∧ I j ∧ μ j < μ i ∧ R j = R i) ∨ (s (st i)).run some = some (.inr (R i))) :
    ∀ (m : Nat) (i : ι), I i → μ i < m → loopN s m (st i) = some (R i)
  | 0, i, _, hm => absurd hm (Nat.not_lt_zero _)
  | m + 1, i, hi, hm => by
    rw [loopN]
    rcases h i hi with ⟨j, h1, h2, h3, h4⟩ | h1
    · rw [run_any h1]
      show loopN s m (st j) = _
      rw [loop_st st μ I R h m j h2 (by omega), h4]
    · rw [run_any h1]

theorem loop_step {X Y : Type} {s : X → Tree (X ⊕ Y)} {x x' : X} {y : Y} {m : Nat} (hm : 0 < m) (h : (s x).run some = some (.inl x')) (h' : loopN s (m - 1) x' = some y) : loopN s m x = some y := by
  obtain ⟨n, rfl⟩ : ∃ n, m = n + 1 := ⟨m - 1, by omega⟩
  rw [loopN, run_any h]
  exact h'
theorem loop_stop {X Y : Type} {s : X → Tree (X ⊕ Y)} {x : X} {y : Y} {m : Nat} (hm : 0 < m) (h : (s x).run some = some (.inr y)) : loopN s m x = some y := by
  obtain ⟨n, rfl⟩ : ∃ n, m = n + 1 := ⟨m - 1, by omega⟩
  rw [loopN, run_any h]

/-- Rounds that are counted up: state i, from k to n. -/
theorem loop_up {X Y : Type} {s : X → Tree (X ⊕ Y)} (st : Nat → X) (n : Nat) (y : Y) {k m : Nat} (hk : k ≤ n) (hm : n - k < m)
    (step : ∀ i, k ≤ i → i < n → (s (st i)).run some = some (.inl (st (i + 1)))) (last : (s (st n)).run some = some (.inr y)) : loopN s m (st k) = some y := by
  refine loop_st st (fun i => n - i) (fun i => k ≤ i ∧ i ≤ n) (fun _ => y) (fun i hi => ?_) m k ⟨Nat.le_refl _, hk⟩ hm
  rcases Nat.lt_or_ge i n with h | h
  · exact .inl ⟨i + 1, step i hi.1 h, ⟨by omega, by omega⟩, by omega, rfl⟩
  · obtain rfl : i = n := by omega
    exact .inr last

/-- Rounds that stop early where p is false. -/
theorem loop_all {Y : Type} {s : Int → Tree (Int ⊕ Y)} (p : Nat → Prop) (n : Nat) (bad good : Y) {m : Nat} (hm : n < m) [∀ i, Decidable (p i)]
    (step : ∀ i : Nat, i < n → (s (i : Int)).run some = some (if p i then .inl ((i + 1 : Nat) : Int) else .inr bad)) (last : (s (n : Int)).run some = some (.inr good)) [Decidable (∀ i, i < n → p i)] :
    loopN s m 0 = some (if ∀ i, i < n → p i then good else bad) := by
  have := loop_st (s := s) (fun i : Nat => (i : Int)) (fun i => n - i) (fun i => i ≤ n ∧ ∀ j, j < i → p j) (fun _ => if ∀ i, i < n → p i then good else bad) (fun i hi => ?_) m 0 ⟨Nat.zero_le _, fun j hj => absurd hj (Nat.not_lt_zero _)⟩ (by omega)
  · exact this
  · rcases Nat.lt_or_ge i n with h | h
    · by_cases hp : p i
      · refine .inl ⟨i + 1, by rw [step i h, if_pos hp], ⟨by omega, fun j hj => ?_⟩, by omega, rfl⟩
        rcases Nat.lt_or_ge j i with h2 | h2
        · exact hi.2 j h2
        · obtain rfl : j = i := by omega
          exact hp
      · refine .inr ?_
        rw [step i h, if_neg hp, if_neg (fun hh => hp (hh i h))]
    · obtain rfl : i = n := by omega
      exact .inr (by rw [last, if_pos hi.2])

/-- Rounds that stop early where p is false: the first place. -/
theorem loop_find {X Y : Type} {s : X → Tree (X ⊕ Y)} (st : Nat → X) (p : Nat → Prop) (n : Nat) (bad : Nat → Y) (good : Y) {m : Nat} (hm : n < m)
    (step : ∀ i : Nat, i < n → (∀ j, j < i → p j) → (p i ∧ (s (st i)).run some = some (.inl (st (i + 1)))) ∨ (¬ p i ∧ (s (st i)).run some = some (.inr (bad i)))) (last : (∀ j, j < n → p j) → (s (st n)).run some = some (.inr good)) :
    ((∀ i, i < n → p i) ∧ loopN s m (st 0) = some good) ∨ ∃ i, i < n ∧ ¬ p i ∧ (∀ j, j < i → p j) ∧ loopN s m (st 0) = some (bad i) := by
  have H : ∀ (k i : Nat), n - i = k → i ≤ n → (∀ j, j < i → p j) → ∀ m, n - i < m → ((∀ i, i < n → p i) ∧ loopN s m (st i) = some good) ∨ ∃ i', i' < n ∧ ¬ p i' ∧ (∀ j, j < i' → p j) ∧ loopN s m (st i) = some (bad i') := by
    intro k
    induction k with
    | zero =>
      intro i hk hi hp m hm
      obtain rfl : i = n := by omega
      exact .inl ⟨hp, loop_stop (by omega) (last hp)⟩
    | succ k ih =>
      intro i hk hi hp m hm
      obtain ⟨m', rfl⟩ : ∃ m', m = m' + 1 := ⟨m - 1, by omega⟩
      rcases step i (by omega) hp with ⟨h1, h2⟩ | ⟨h1, h2⟩
      · have e : loopN s (m' + 1) (st i) = loopN s m' (st (i + 1)) := by rw [loopN, run_any h2]
        rw [e]
        refine ih (i + 1) (by omega) (by omega) (fun j hj => ?_) m' (by omega)
        rcases Nat.lt_or_ge j i with h | h
        · exact hp j h
        · obtain rfl : j = i := by omega
          exact h1
      · exact .inr ⟨i, by omega, h1, hp, loop_stop (by omega) h2⟩
  exact H n 0 (by omega) (by omega) (fun j hj => absurd hj (Nat.not_lt_zero _)) m (by omega)

/-! ### Whole numbers -/
theorem ltI_iff (a b : Int) : (ltI a b = true) = (a < b) := by rw [ltI_eq]; simp
theorem leI_iff (a b : Int) : (leI a b = true) = (a ≤ b) := by rw [leI_eq]; simp
theorem inRange_iff (i : Int) (n : Nat) : (inRange i n = true) = (0 ≤ i ∧ i < n) := by simp only [inRange, Bool.and_eq_true, ltI_iff, leI_iff]
attribute [simp] inRange_iff
theorem beq_iffI (a b : Int) : ((a == b) = true) = (a = b) := by simp
theorem bne_iffI (a b : Int) : ((a != b) = true) = (a ≠ b) := by simp
theorem not_iffB (a : Bool) : ((!a) = true) = ¬ (a = true) := by cases a <;> simp
theorem and_iffB (a b : Bool) : ((a && b) = true) = (a = true ∧ b = true) := by simp
theorem or_iffB (a b : Bool) : ((a || b) = true) = (a = true ∨ b = true) := by simp
theorem dec_iffB (p : Prop) [Decidable p] : (decide p = true) = p := by simp

theorem i64_in {x : Int} (h : -9223372036854775808 ≤ x ∧ x ≤ 9223372036854775807) : IntKind.i64.wrap x = x := IntWalk.i64_in _ h
theorem i64_nat {n : Nat} (h : n ≤ 9223372036854775807) : IntKind.i64.wrap (n : Int) = n := i64_in (by omega)
theorem i64_succ {i : Nat} (h : i < 9223372036854775807) : IntKind.i64.wrap ((i : Int) + 1) = ((i + 1 : Nat) : Int) := by rw [i64_in (by omega)]; rfl
theorem u32_in {x : Int} (h : 0 ≤ x ∧ x ≤ 4294967295) : IntKind.u32.wrap x = x := IntWalk.u32_in _ h
theorem u64_in {x : Int} (h : 0 ≤ x ∧ x ≤ 18446744073709551615) : IntKind.u64.wrap x = x := IntWalk.u64_in _ h
theorem u16_in {x : Int} (h : 0 ≤ x ∧ x ≤ 65535) : IntKind.u16.wrap x = x := IntWalk.u16_in _ h
theorem u8_in {x : Int} (h : 0 ≤ x ∧ x ≤ 255) : IntKind.u8.wrap x = x := IntWalk.u8_in _ h

/-- A list's element, at a whole number. -/
theorem getD_nat {α : Type} (l : List α) (i : Nat) (d : α) (h : i < l.length) : l.getD i d = l[i] := by simp [h]
theorem toNat_nat (i : Nat) : ((i : Int)).toNat = i := rfl
theorem getD_left {α : Type} (l r : List α) (d : α) {i : Nat} (h : i < l.length) : (l ++ r).getD i d = l.getD i d := by
  simp only [List.getD_eq_getElem?_getD, List.getElem?_append_left h]
theorem getD_last {α : Type} (l : List α) (x d : α) {i : Nat} (h : i = l.length) : (l ++ [x]).getD i d = x := by
  subst h; simp
theorem mid_get {α : Type} (a b : List α) (x d : α) {i : Nat} (h : i = a.length) : (a ++ x :: b).getD i d = x := by subst h; simp
theorem mid_set {α : Type} (a b : List α) (x y : α) {i : Nat} (h : i = a.length) : (a ++ x :: b).set i y = a ++ y :: b := by subst h; simp
theorem drop_cons {α : Type} (l : List α) {i : Nat} (h : i < l.length) : l.drop i = l[i] :: l.drop (i + 1) := List.drop_eq_getElem_cons h
theorem anyR_eq {R : Type} {x y : Option R} (h : x = y) : anyR x y = x := by subst h; exact anyR_self x
theorem getD_set_eq {α : Type} (l : List α) (d x : α) {i : Nat} (h : i < l.length) : (l.set i x).getD i d = x := by
  simp [List.getD_eq_getElem?_getD, h]
theorem getD_set_ne {α : Type} (l : List α) (d x : α) {i j : Nat} (h : i ≠ j) : (l.set i x).getD j d = l.getD j d := by
  simp [List.getD_eq_getElem?_getD, List.getElem?_set_ne h]
theorem getD_over {α : Type} (l : List α) (d : α) {i : Nat} (h : l.length ≤ i) : l.getD i d = d := by
  rw [List.getD_eq_getElem?_getD, List.getElem?_eq_none h]; rfl
theorem take_snoc {α : Type} (l : List α) {i : Nat} (h : i < l.length) : l.take (i + 1) = l.take i ++ [l[i]] := by
  rw [List.take_add_one, List.getElem?_eq_getElem h]; rfl
theorem getD_take {α : Type} (l : List α) (d : α) {i j : Nat} (h : j < i) : (l.take i).getD j d = l.getD j d := by
  simp only [List.getD_eq_getElem?_getD, List.getElem?_take, if_pos h]
end Go.Proofs.YtfogafinohfpfaaGreatDoorV
