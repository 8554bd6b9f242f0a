/- What a tree comes to: a small calculus, nothing of the machine. -/
import Derived.Test.YtfogafinohfpfaaGreatDoorWa
namespace Go.Proofs.YtfogafinohfpfaaGreatDoorV
set_option linter.unusedVariables false
set_option linter.unusedSimpArgs false

/-! ### What a tree comes to -/
def OS {α : Type} (o : Option α) (P : α → Prop) : Prop := ∃ y, o = some y ∧ P y
def OS2 {A B : Type} (o : Option (A ⊕ B)) (PA : A → Prop) (PB : B → Prop) : Prop := (∃ a, o = some (.inl a) ∧ PA a) ∨ ∃ b, o = some (.inr b) ∧ PB b
def TS {α : Type} (t : Tree α) (Q : α → Prop) : Prop := OS (t.run some) Q

theorem TS.ret {α : Type} {a : α} {Q : α → Prop} (h : Q a) : TS (.ret a) Q := ⟨a, rfl, h⟩
theorem TS.call {α Y : Type} {o : Option Y} {f : Y → Tree α} {P : Y → Prop} {Q : α → Prop} (h : OS o P) (hf : ∀ y, P y → TS (f y) Q) : TS (.call o f) Q := by
  obtain ⟨y, rfl, hp⟩ := h
  exact hf y hp
theorem TS.callS {α A B : Type} {o : Option (A ⊕ B)} {f : A → Tree α} {g : B → Tree α} {PA : A → Prop} {PB : B → Prop} {Q : α → Prop} (h : OS2 o PA PB) (hf : ∀ a, PA a → TS (f a) Q) (hg : ∀ b, PB b → TS (g b) Q) : TS (.call o fun y => .alt y f g) Q := by
  rcases h with ⟨a, rfl, hp⟩ | ⟨b, rfl, hp⟩
  · exact hf a hp
  · exact hg b hp
theorem TS.br {α : Type} {c : Bool} {x y : Tree α} {Q : α → Prop} (hx : c = true → TS x Q) (hy : c = false → TS y Q) : TS (.br c x y) Q := by
  cases c
  · exact hy rfl
  · exact hx rfl
theorem TS.brT {α : Type} {c : Bool} {x y : Tree α} {Q : α → Prop} (hc : c = true) (hx : TS x Q) : TS (.br c x y) Q := by
  subst hc
  exact hx
theorem TS.mono {α : Type} {t : Tree α} {Q Q' : α → Prop} (h : TS t Q) (hq : ∀ a, Q a → Q' a) : TS t Q' :=
  let ⟨y, h1, h2⟩ := h
  ⟨y, h1, hq y h2⟩
theorem OS2.of {A B : Type} {t : Tree (A ⊕ B)} {PA : A → Prop} {PB : B → Prop} (h : TS t (fun r => match r with | .inl a => PA a | .inr b => PB b)) : OS2 (t.run some) PA PB := by
  obtain ⟨y, h1, h2⟩ := h
  cases y with
  | inl a => exact .inl ⟨a, h1, h2⟩
  | inr b => exact .inr ⟨b, h1, h2⟩
theorem OS2.mono {A B : Type} {o : Option (A ⊕ B)} {PA PA' : A → Prop} {PB PB' : B → Prop} (h : OS2 o PA PB) (ha : ∀ a, PA a → PA' a) (hb : ∀ b, PB b → PB' b) : OS2 o PA' PB' := by
  rcases h with ⟨a, h, hp⟩ | ⟨b, h, hp⟩
  · exact .inl ⟨a, h, ha a hp⟩
  · exact .inr ⟨b, h, hb b hp⟩
/-- Rounds that come to an end. -/
theorem loop_ts {X Y : Type} {s : X → Tree (X ⊕ Y)} (I : X → Prop) (μ : X → Nat) (Q : Y → Prop) (h : ∀ x, I x → TS (s x) (fun r => match r with | .inl x' => I x' ∧ μ x' < μ x | .inr y => Q y)) : ∀ (m : Nat) (x : X), I x → μ x < m → OS (loopN s m x) Q
  | 0, x, _, hm => by omega
  | m + 1, x, hi, hm => by
    obtain ⟨r, h1, h2⟩ := h x hi
    cases r with
    | inl x' =>
      obtain ⟨y, h3, h4⟩ := loop_ts I μ Q h m x' h2.1 (by have := h2.2; omega)
      refine ⟨y, ?_, h4⟩
      simp only [loopN]
      rw [run_any h1]
      exact h3
    | inr y =>
      refine ⟨y, ?_, h2⟩
      simp only [loopN]
      rw [run_any h1]
theorem OS.two {A B : Type} {o : Option (A ⊕ B)} {PA : A → Prop} {PB : B → Prop} (h : OS o (fun r => match r with | .inl a => PA a | .inr b => PB b)) : OS2 o PA PB := by
  obtain ⟨y, h1, h2⟩ := h
  cases y with
  | inl a => exact .inl ⟨a, h1, h2⟩
  | inr b => exact .inr ⟨b, h1, h2⟩
theorem OS.mono {α : Type} {o : Option α} {P P' : α → Prop} (h : OS o P) (hp : ∀ a, P a → P' a) : OS o P' :=
  let ⟨y, h1, h2⟩ := h
  ⟨y, h1, hp y h2⟩
theorem OS.of {α : Type} {t : Tree α} {P : α → Prop} (h : TS t P) : OS (t.run some) P := h
theorem OS.and {α : Type} {o : Option α} {P P' : α → Prop} (h : OS o P) (h' : OS o P') : OS o (fun a => P a ∧ P' a) := by
  obtain ⟨y, h1, h2⟩ := h
  obtain ⟨y', h3, h4⟩ := h'
  rw [h1] at h3
  cases h3
  exact ⟨y, h1, h2, h4⟩
/-- Either, of a sum. -/
@[reducible] def EP {A B : Type} (PA : A → Prop) (PB : B → Prop) : A ⊕ B → Prop
  | .inl a => PA a
  | .inr b => PB b
/-- A loop, with its fuel. -/
theorem loop_os {X Y : Type} {s : X → Tree (X ⊕ Y)} (I : X → Prop) (μ : X → Nat) (Q : Y → Prop) {m : Nat} {x : X} (hi : I x) (hm : μ x < m) (h : ∀ x, I x → TS (s x) (EP (fun x' => I x' ∧ μ x' < μ x) Q)) : OS (loopN s m x) Q :=
  loop_ts I μ Q (fun x hx => (h x hx).mono fun r hr => by cases r <;> exact hr) m x hi hm
theorem OS.ep {A B : Type} {o : Option (A ⊕ B)} {PA : A → Prop} {PB : B → Prop} (h : OS o (EP PA PB)) : OS2 o PA PB := by
  obtain ⟨y, h1, h2⟩ := h
  cases y with
  | inl a => exact .inl ⟨a, h1, h2⟩
  | inr b => exact .inr ⟨b, h1, h2⟩
theorem OS2.ep {A B : Type} {o : Option (A ⊕ B)} {PA : A → Prop} {PB : B → Prop} (h : OS2 o PA PB) : OS o (EP PA PB) := by
  rcases h with ⟨a, h, hp⟩ | ⟨b, h, hp⟩
  · exact ⟨_, h, hp⟩
  · exact ⟨_, h, hp⟩
theorem TS.brF {α : Type} {c : Bool} {x y : Tree α} {Q : α → Prop} (hc : c = false) (hy : TS y Q) : TS (.br c x y) Q := by
  subst hc
  exact hy
theorem TS.brTB {α : Type} {c : Bool} {x : Tree α} {Q : α → Prop} (hc : c = true) (hx : TS x Q) : TS (.br c x .fail) Q := TS.brT hc hx
end Go.Proofs.YtfogafinohfpfaaGreatDoorV
