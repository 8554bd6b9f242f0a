/- The parser always comes to something, and what is told is at a place in the text (printed by wip/pure/par_gen.py). -/
import Derived.Test.YtfbnofpfinenkaaDoorPLexT
namespace Go.Proofs.YtfbnofpfinenkaaDoorV
set_option linter.unusedVariables false
set_option linter.unusedSimpArgs false

/-! ### What a tree comes to -/
def OS {α : Type} (o : Option α) (P : α → Prop) : Prop := ∃ y, o = some y ∧ P y
def OS2 {A B : Type} (o : Option (A ⊕ B)) (PA : A → Prop) (PB : B → Prop) : Prop := (∃ a, o = some (.inl a) ∧ PA a) ∨ ∃ b, o = some (.inr b) ∧ PB b
def TS {α : Type} (t : Tree α) (Q : α → Prop) : Prop := OS (t.run some) Q

theorem TS.ret {α : Type} {a : α} {Q : α → Prop} (h : Q a) : TS (.ret a) Q := ⟨a, rfl, h⟩
theorem TS.call {α Y : Type} {o : Option Y} {f : Y → Tree α} {P : Y → Prop} {Q : α → Prop} (h : OS o P) (hf : ∀ y, P y → TS (f y) Q) : TS (.call o f) Q := by
  obtain ⟨y, rfl, hp⟩ := h
  exact hf y hp
theorem TS.callS {α A B : Type} {o : Option (A ⊕ B)} {f : A → Tree α} {g : B → Tree α} {PA : A → Prop} {PB : B → Prop} {Q : α → Prop} (h : OS2 o PA PB) (hf : ∀ a, PA a → TS (f a) Q) (hg : ∀ b, PB b → TS (g b) Q) : TS (.call o fun y => .alt y f g) Q := by
  rcases h with ⟨a, rfl, hp⟩ | ⟨b, rfl, hp⟩
  · exact hf a hp
  · exact hg b hp
theorem TS.br {α : Type} {c : Bool} {x y : Tree α} {Q : α → Prop} (hx : c = true → TS x Q) (hy : c = false → TS y Q) : TS (.br c x y) Q := by
  cases c
  · exact hy rfl
  · exact hx rfl
theorem TS.brT {α : Type} {c : Bool} {x y : Tree α} {Q : α → Prop} (hc : c = true) (hx : TS x Q) : TS (.br c x y) Q := by
  subst hc
  exact hx
theorem TS.mono {α : Type} {t : Tree α} {Q Q' : α → Prop} (h : TS t Q) (hq : ∀ a, Q a → Q' a) : TS t Q' :=
  let ⟨y, h1, h2⟩ := h
  ⟨y, h1, hq y h2⟩
theorem OS2.of {A B : Type} {t : Tree (A ⊕ B)} {PA : A → Prop} {PB : B → Prop} (h : TS t (fun r => match r with | .inl a => PA a | .inr b => PB b)) : OS2 (t.run some) PA PB := by
  obtain ⟨y, h1, h2⟩ := h
  cases y with
  | inl a => exact .inl ⟨a, h1, h2⟩
  | inr b => exact .inr ⟨b, h1, h2⟩
theorem OS2.mono {A B : Type} {o : Option (A ⊕ B)} {PA PA' : A → Prop} {PB PB' : B → Prop} (h : OS2 o PA PB) (ha : ∀ a, PA a → PA' a) (hb : ∀ b, PB b → PB' b) : OS2 o PA' PB' := by
  rcases h with ⟨a, h, hp⟩ | ⟨b, h, hp⟩
  · exact .inl ⟨a, h, ha a hp⟩
  · exact .inr ⟨b, h, hb b hp⟩
/-- Rounds that come to an end. -/
theorem loop_ts {X Y : Type} {s : X → Tree (X ⊕ Y)} (I : X → Prop) (μ : X → Nat) (Q : Y → Prop) (h : ∀ x, I x → TS (s x) (fun r => match r with | .inl x' => I x' ∧ μ x' < μ x | .inr y => Q y)) : ∀ (m : Nat) (x : X), I x → μ x < m → OS (loopN s m x) Q
  | 0, x, _, hm => by omega
  | m + 1, x, hi, hm => by
    obtain ⟨r, h1, h2⟩ := h x hi
    cases r with
    | inl x' =>
      obtain ⟨y, h3, h4⟩ := loop_ts I μ Q h m x' h2.1 (by have := h2.2; omega)
      refine ⟨y, ?_, h4⟩
      simp only [loopN]
      rw [run_any h1]
      exact h3
    | inr y =>
      refine ⟨y, ?_, h2⟩
      simp only [loopN]
      rw [run_any h1]
theorem OS.two {A B : Type} {o : Option (A ⊕ B)} {PA : A → Prop} {PB : B → Prop} (h : OS o (fun r => match r with | .inl a => PA a | .inr b => PB b)) : OS2 o PA PB := by
  obtain ⟨y, h1, h2⟩ := h
  cases y with
  | inl a => exact .inl ⟨a, h1, h2⟩
  | inr b => exact .inr ⟨b, h1, h2⟩

/-! ### Tokens -/
/-- Tokens of a text: the last is the end; their places are in it. -/
structure GL' (L : List Tok) (S : Int) : Prop where
  pos : 0 < L.length
  len : L.length ≤ 4001
  each : ∀ i, i < L.length → 0 ≤ (L.getD i dt).2.2 ∧ (L.getD i dt).2.2 ≤ S ∧ (L.getD i dt).2.1.size ≤ 20000
  last : (L.getD (L.length - 1) dt).1 = 0

section
variable (N : Nat) (hN : 20030 < N) {L : List Tok} {S : Int} (hG : GL' L S) {p : Int} (hp0 : 0 ≤ p) (hp : p < L.length)
include hG hp0 hp

theorem tok_ok : OS (parse_tokens_tok N p L) (fun t => 0 ≤ t.2.2 ∧ t.2.2 ≤ S ∧ (t.2.1.size : Int) ≤ 20000 ∧ (t.1 ≠ 0 → p + 1 < L.length)) := by
  have hi : p.toNat < L.length := by omega
  have hc : inRange p L.length = true := by rw [inRange_iff]; exact ⟨hp0, hp⟩
  have he := hG.each p.toNat hi
  have hl := hG.last
  refine TS.brT hc ?_
  refine TS.ret ⟨he.1, he.2.1, by have := he.2.2; show ((L.getD p.toNat dt).2.1.size : Int) ≤ 20000; omega, fun hk => ?_⟩
  rcases Nat.lt_or_ge (p.toNat + 1) L.length with h | h
  · omega
  · have e : p.toNat = L.length - 1 := by omega
    exact absurd (by simp only; rw [e]; exact hl) hk

theorem fail_ok : OS (parse_tokens_fail N p L) (fun y => 0 ≤ y ∧ y ≤ S) := by
  refine TS.call (tok_ok N hG hp0 hp) (fun y hy => ?_)
  exact TS.ret ⟨hy.1, hy.2.1⟩
end

theorem contains_ok (N : Nat) (hN : 20030 < N) {l : List ByteArray} {x : ByteArray} (hl : l.length ≤ 100) : OS (slices_Contains N l x) (fun _ => True) := by
  have key : OS (slices_Index N l x) (fun _ => True) := by
    have hloop : OS (slices_Index_l2 N l x (l.length : Int) 0) (fun _ => True) := by
      refine loop_ts (fun i => 0 ≤ i ∧ i ≤ (l.length : Int)) (fun i => (l.length - i).toNat) _ ?_ N 0 (by omega) (by omega)
      intro i hi
      refine TS.br (fun hc => ?_) (fun hc => TS.ret trivial)
      rw [ltI_iff] at hc
      refine TS.brT (by rw [inRange_iff]; omega) ?_
      refine TS.br (fun _ => TS.ret trivial) (fun _ => TS.ret ?_)
      dsimp only
      rw [i64_in (by omega)]
      omega
    refine TS.call hloop (fun y _ => ?_)
    cases y with
    | inl a => exact TS.ret trivial
    | inr b => exact TS.ret trivial
  exact TS.call key (fun y _ => TS.ret trivial)

theorem j3_ok (N : Nat) {b : Bool} {p : Int} (hp0 : 0 ≤ p) (hp : p ≤ 4001) : parse_tokens_goes_j3 N b p = some (if b = true then .inl (p + 1) else .inr ()) := by
  cases b
  · rfl
  · simp only [parse_tokens_goes_j3, parse_tokens_goes_j3_T, run_br, run_ret, if_true]
    rw [i64_in (by omega)]

section
variable (N : Nat) (hN : 20030 < N) {L : List Tok} {S : Int} (hG : GL' L S)
include hN hG
theorem goes_ok {l : List ByteArray} (hl : l.length ≤ 100) {p : Int} (hp0 : 0 ≤ p) (hp : p < L.length) : OS (parse_tokens_goes N l p L) (fun r => p ≤ r.2 ∧ r.2 < L.length ∧ (r.1 = true → p < r.2)) := by
  have hlen := hG.len
  refine TS.call (tok_ok N hG hp0 hp) (fun y hy => ?_)
  have one : ∀ b : Bool, y.1 ≠ 0 → TS (.call (parse_tokens_goes_j3 N b p) fun y4 => .alt y4 (fun y5 => .ret (true, y5)) (fun y6 => .ret (false, p))) (fun r : Bool × Int => p ≤ r.2 ∧ r.2 < L.length ∧ (r.1 = true → p < r.2)) := by
    intro b hk
    rw [j3_ok N hp0 (by omega)]
    cases b
    · exact TS.ret ⟨Int.le_refl _, hp, fun h => by cases h⟩
    · exact TS.ret ⟨by dsimp only; omega, by dsimp only; have := hy.2.2.2 hk; omega, fun _ => by dsimp only; omega⟩
  dsimp only
  refine TS.br (fun hc => ?_) (fun hc => ?_)
  · have hk : y.1 ≠ 0 := by simp at hc; omega
    exact TS.call (contains_ok N hN hl) (fun b _ => one b hk)
  · refine TS.br (fun hc => ?_) (fun hc => ?_)
    · have hk : y.1 ≠ 0 := by simp at hc; omega
      exact TS.call (contains_ok N hN hl) (fun b _ => one b hk)
    · rw [j3_ok N hp0 (by omega)]
      exact TS.ret ⟨Int.le_refl _, hp, fun h => by cases h⟩

omit hN in
theorem name_ok {p : Int} (hp0 : 0 ≤ p) (hp : p < L.length) : OS2 (parse_tokens_name N p L) (fun y => 0 ≤ y ∧ y ≤ S) (fun y => p < y.2 ∧ y.2 < L.length) := by
  have hlen := hG.len
  refine OS2.of (TS.call (tok_ok N hG hp0 hp) (fun y hy => ?_))
  dsimp only
  refine TS.br (fun hc => ?_) (fun hc => ?_)
  · exact TS.call (fail_ok N hG hp0 hp) (fun z hz => TS.ret hz)
  · have hk : y.1 ≠ 0 := by simp at hc; omega
    have := hy.2.2.2 hk
    refine TS.call (P := fun q => q = p + 1) ⟨_, rfl, i64_in (by omega)⟩ (fun z hz => TS.ret ?_)
    dsimp only
    omega

theorem must_ok {s : ByteArray} {p : Int} (hp0 : 0 ≤ p) (hp : p < L.length) : OS2 (parse_tokens_must N s p L) (fun y => 0 ≤ y.1 ∧ y.1 ≤ S) (fun y => p < y ∧ y < L.length) := by
  refine OS2.of (TS.call (goes_ok N hN hG (by simp) hp0 hp) (fun y hy => ?_))
  dsimp only
  refine TS.br (fun hc => ?_) (fun hc => ?_)
  · exact TS.call (fail_ok N hG (by omega) (by omega)) (fun z hz => TS.ret hz)
  · have : y.1 = true := by simpa using hc
    exact TS.ret ⟨hy.2.2 this, hy.2.1⟩

omit hN in
theorem deep_ok {d p : Int} (hp0 : 0 ≤ p) (hp : p < L.length) : OS2 (parse_parser_deep N d p L) (fun y => 0 ≤ y ∧ y ≤ S) (fun _ => d ≤ 60) := by
  refine OS2.of ?_
  refine TS.br (fun hc => ?_) (fun hc => ?_)
  · exact TS.call (fail_ok N hG hp0 hp) (fun z hz => TS.ret hz)
  · refine TS.ret ?_
    rw [ltI_eq] at hc
    dsimp only
    simpa using hc

theorem names_ok {p : Int} (hp0 : 0 ≤ p) (hp : p < L.length) : OS2 (parse_tokens_names N p L) (fun y => 0 ≤ y.1 ∧ y.1 ≤ S) (fun y => p < y.2 ∧ y.2 < L.length) := by
  have hlen := hG.len
  have hpos := hG.pos
  refine OS2.of ?_
  refine TS.callS (name_ok N hG hp0 hp) (fun a ha => TS.ret ha) (fun b hb => ?_)
  have hloop : OS2 (parse_tokens_names_l2 N L (b.2, [b.1])) (fun y => 0 ≤ y.1 ∧ y.1 ≤ S) (fun y => p < y.1 ∧ y.1 < L.length) := by
    refine OS.two (loop_ts (fun v : Int × List ByteArray => p < v.1 ∧ v.1 < (L.length : Int) ∧ (v.2.length : Int) ≤ v.1) (fun v => ((L.length : Int) - v.1).toNat) _ ?_ N _ ⟨hb.1, hb.2, by simp; omega⟩ (by dsimp only; omega))
    intro v hv
    refine TS.call (goes_ok N hN hG (by simp) (by omega) hv.2.1) (fun y hy => ?_)
    refine TS.br (fun hc => ?_) (fun hc => ?_)
    · have := hy.2.2 hc
      refine TS.callS (name_ok N hG (by omega) hy.2.1) (fun a ha => TS.ret ha) (fun b hb => ?_)
      refine TS.brT (by rw [ltI_iff]; omega) (TS.ret ?_)
      dsimp only
      simp only [List.length_append, List.length_singleton]
      omega
    · exact TS.ret ⟨by dsimp only; omega, hy.2.1⟩
  exact TS.callS hloop (fun a ha => TS.ret ha) (fun c hc => TS.ret hc)
end


theorem j5_tot (N : Nat) (a b : Int) (c : Bool) : OS (word_digit_j5 N a b c) (fun _ => True) := by
  refine TS.br (fun _ => TS.ret trivial) (fun _ => TS.br (fun _ => TS.br (fun _ => TS.ret trivial) (fun _ => TS.ret trivial)) (fun _ => TS.ret trivial))
theorem j3_tot (N : Nat) (a b : Int) (c : Bool) : OS (word_digit_j3 N a b c) (fun _ => True) := by
  refine TS.br (fun _ => TS.ret trivial) (fun _ => TS.br (fun _ => TS.call (j5_tot N _ _ _) (fun _ _ => TS.ret trivial)) (fun _ => TS.call (j5_tot N _ _ _) (fun _ _ => TS.ret trivial)))
theorem digit_tot (N : Nat) (a b : Int) : OS (word_digit N a b) (fun _ => True) := by
  refine TS.br (fun _ => TS.call (j3_tot N _ _ _) (fun _ _ => TS.ret trivial)) (fun _ => TS.call (j3_tot N _ _ _) (fun _ _ => TS.ret trivial))
theorem j4_tot (N : Nat) (hN : 20030 < N) (s : ByteArray) (hs : (s.size : Int) ≤ 20000) (b : Int) : OS (word_Number_j4 N s b) (fun _ => True) := by
  have hloop : OS (word_Number_l6 N s b (s.size : Int) (0, false, 0)) (fun _ => True) := by
    refine loop_ts (fun v => 0 ≤ v.2.2 ∧ v.2.2 ≤ (s.size : Int)) (fun v => ((s.size : Int) - v.2.2).toNat) _ ?_ N _ (by dsimp only; omega) (by dsimp only; omega)
    intro v hv
    refine TS.br (fun hc => ?_) (fun hc => TS.ret trivial)
    rw [ltI_iff] at hc
    refine TS.brT (by rw [inRange_iff]; omega) ?_
    refine TS.call (digit_tot N _ _) (fun y _ => ?_)
    refine TS.br (fun _ => TS.ret trivial) (fun _ => ?_)
    refine TS.br (fun _ => TS.ret ?_) (fun _ => TS.ret ?_) <;> (dsimp only; rw [i64_in (by omega)]; omega)
  refine TS.call hloop (fun y _ => ?_)
  cases y with
  | inl a => exact TS.ret trivial
  | inr b => exact TS.br (fun _ => TS.ret trivial) (fun _ => TS.br (fun _ => TS.ret trivial) (fun _ => TS.ret trivial))
theorem number_ok (N : Nat) (hN : 20030 < N) (s : ByteArray) (hs : (s.size : Int) ≤ 20000) : OS (word_Number N s) (fun _ => True) := by
  have h2 : ∀ a b, ((s.extract a b).size : Int) ≤ 20000 := fun a b => by
    rw [ByteArray.size_extract]; omega
  refine TS.br (fun hc => ?_) (fun hc => TS.call (j4_tot N hN s hs _) (fun _ _ => TS.ret trivial))
  rw [ltI_iff] at hc
  have c2 : (leI 0 2 && leI 2 (s.size : Int)) = true := by
    simp only [Bool.and_eq_true, leI_iff]; omega
  refine TS.brT c2 ?_
  refine TS.br (fun _ => TS.brT c2 ?_) (fun _ => ?_)
  · exact TS.call (j4_tot N hN _ (h2 _ _) _) (fun _ _ => TS.ret trivial)
  · exact TS.call (j4_tot N hN _ hs _) (fun _ _ => TS.ret trivial)


/-! ### Expressions -/
section
variable (N : Nat) (hN : 20030 < N) {L : List Tok} {S : Int} (hG : GL' L S)
include hN hG
theorem primary_ok {er : Int → Int → List Tok → Option ((Int × Int × Int) ⊕ (Int × ByteArray × Int × Int × (List Node) × (List ByteArray) × Int))} {d p : Int} (hd0 : 0 ≤ d) (hd : d ≤ 60) (hE : ∀ (d' p : Int), d < d' → d' ≤ 61 → 0 ≤ p → p < L.length → OS2 (er d' p L) (fun y => 0 ≤ y.1 ∧ y.1 ≤ S ∧ (y.2.1 = 100 ∨ y.2.1 = 150)) (fun y => p < y.2.2.2.2.2.2 ∧ y.2.2.2.2.2.2 < L.length)) (hp0 : 0 ≤ p) (hp : p < L.length) : OS2 (parse_parser_primary N er d p L) (fun y => 0 ≤ y.1 ∧ y.1 ≤ S ∧ (y.2.1 = 100 ∨ y.2.1 = 150)) (fun y => p < y.2.2.2.2.2.2 ∧ y.2.2.2.2.2.2 < L.length) := by
  have hlen := hG.len
  have e1 : IntKind.i64.wrap (d + 1) = d + 1 := i64_in (by omega)
  have hloop : ∀ v : Int × List Node, p < v.1 → v.1 < L.length → (v.2.length : Int) ≤ v.1 → OS2 (parse_parser_primary_l19 N er d L v) (fun y => 0 ≤ y.1 ∧ y.1 ≤ S ∧ (y.2.1 = 100 ∨ y.2.1 = 150)) (fun y => p < y.1 ∧ y.1 < L.length) := by
    intro v0 h1 h2 h3
    refine OS.two (loop_ts (fun v : Int × List Node => p < v.1 ∧ v.1 < (L.length : Int) ∧ (v.2.length : Int) ≤ v.1) (fun v => ((L.length : Int) - v.1).toNat) _ ?_ N _ ⟨h1, h2, h3⟩ (by omega))
    intro v hv
    refine TS.call (goes_ok N hN hG (by simp) (by omega) hv.2.1) (fun y hy => ?_)
    refine TS.br (fun hc => ?_) (fun hc => ?_)
    · have := hy.2.2 hc
      dsimp only
      rw [e1]
      refine TS.callS (hE (d + 1) _ (by omega) (by omega) (by omega) hy.2.1) (fun a ha => TS.ret ha) (fun b hb => ?_)
      refine TS.brT (by rw [ltI_iff]; omega) (TS.ret ?_)
      dsimp only
      simp only [List.length_append, List.length_singleton]
      omega
    · exact TS.ret ⟨by dsimp only; omega, hy.2.1⟩
  refine OS2.of ?_
  refine TS.call (tok_ok N hG hp0 hp) (fun t ht => ?_)
  dsimp only
  refine TS.br (fun hc => ?_) (fun hc => ?_)
  · have hk : t.1 ≠ 0 := by simp at hc; omega
    have hk2 := ht.2.2.2 hk
    refine TS.call (number_ok N hN _ ht.2.2.1) (fun y hy => ?_)
    refine TS.br (fun _ => ?_) (fun _ => ?_)
    · exact TS.call (fail_ok N hG hp0 hp) (fun z hz => TS.ret (by dsimp only; omega))
    · have hj : OS2 (parse_parser_primary_j6 N er y.2 p L) (fun y => 0 ≤ y ∧ y ≤ S) (fun y => y = p + 1) := by
        refine OS2.of ?_
        refine TS.br (fun _ => ?_) (fun _ => ?_)
        · exact TS.call (fail_ok N hG hp0 hp) (fun z hz => TS.ret hz)
        · exact TS.call (P := fun q => q = p + 1) ⟨_, rfl, i64_in (by omega)⟩ (fun z hz => TS.ret hz)
      exact TS.callS hj (fun a ha => TS.ret (by dsimp only; omega)) (fun b hb => TS.ret (by dsimp only; omega))
  · refine TS.call (goes_ok N hN hG (by simp) hp0 hp) (fun y hy => ?_)
    refine TS.br (fun hc => ?_) (fun hc => ?_)
    · have := hy.2.2 hc
      rw [e1]
      refine TS.callS (hE (d + 1) _ (by omega) (by omega) (by omega) hy.2.1) (fun a ha => TS.ret ha) (fun b hb => ?_)
      refine TS.callS (must_ok N hN hG (by omega) (by omega)) (fun a ha => TS.ret (by dsimp only; omega)) (fun c hc => TS.ret (by dsimp only; omega))
    · refine TS.callS (name_ok N hG (by omega) hy.2.1) (fun a ha => TS.ret (by dsimp only; omega)) (fun b hb => ?_)
      refine TS.call (P := fun _ => True) ⟨(), rfl, trivial⟩ (fun _ _ => ?_)
      refine TS.call (goes_ok N hN hG (by simp) (by omega) hb.2) (fun z hz => ?_)
      refine TS.br (fun hc => ?_) (fun hc => TS.ret (by dsimp only; omega))
      have := hz.2.2 hc
      rw [e1]
      refine TS.callS (hE (d + 1) _ (by omega) (by omega) (by omega) hz.2.1) (fun a ha => TS.ret ha) (fun c hc => ?_)
      refine TS.callS (hloop _ (by dsimp only; omega) (by dsimp only; omega) (by dsimp only; simp; omega)) (fun a ha => TS.ret ha) (fun e he => ?_)
      exact TS.callS (must_ok N hN hG (by omega) (by omega)) (fun a ha => TS.ret (by dsimp only; omega)) (fun c hc => TS.ret (by dsimp only; omega))

theorem unary_ok {er : Int → Int → List Tok → Option ((Int × Int × Int) ⊕ (Int × ByteArray × Int × Int × (List Node) × (List ByteArray) × Int))} {d0 : Int} (hE0 : ∀ (d' p : Int), d0 < d' → d' ≤ 61 → 0 ≤ p → p < L.length → OS2 (er d' p L) (fun y => 0 ≤ y.1 ∧ y.1 ≤ S ∧ (y.2.1 = 100 ∨ y.2.1 = 150)) (fun y => p < y.2.2.2.2.2.2 ∧ y.2.2.2.2.2.2 < L.length)) (hd0 : 0 ≤ d0) : ∀ (k : Nat) (d p : Int), d0 ≤ d → d ≤ 61 → 62 - d ≤ k → 0 ≤ p → p < L.length → OS2 (parse_parser_unary_R N er k d p L) (fun y => 0 ≤ y.1 ∧ y.1 ≤ S ∧ (y.2.1 = 100 ∨ y.2.1 = 150)) (fun y => p < y.2.2.2.2.2.2 ∧ y.2.2.2.2.2.2 < L.length)
  | 0, d, p, h1, h2, h3, _, _ => by omega
  | k + 1, d, p, h1, h2, h3, hp0, hp => by
    refine OS2.of ?_
    refine TS.callS (deep_ok N hG hp0 hp) (fun a ha => TS.ret (by dsimp only; omega)) (fun b hb => ?_)
    have e1 : IntKind.i64.wrap (d + 1) = d + 1 := i64_in (by omega)
    refine TS.call (tok_ok N hG hp0 hp) (fun t ht => ?_)
    refine TS.call (goes_ok N hN hG (by simp) hp0 hp) (fun y hy => ?_)
    refine TS.br (fun hc => ?_) (fun hc => ?_)
    · have := hy.2.2 hc
      dsimp only
      rw [e1]
      refine TS.callS (unary_ok hE0 hd0 k (d + 1) y.2 (by omega) (by omega) (by omega) (by omega) hy.2.1) (fun a ha => TS.ret ha) (fun c hc => ?_)
      exact TS.call (P := fun _ => True) ⟨(), rfl, trivial⟩ (fun _ _ => TS.ret (by dsimp only; omega))
    · refine TS.callS (primary_ok N hN hG (by omega) hb (fun d' p h4 h5 h6 h7 => hE0 d' p (by omega) h5 h6 h7) (by omega) hy.2.1) (fun a ha => TS.ret ha) (fun c hc => TS.ret (by dsimp only; omega))

theorem level_ok {er : Int → Int → List Tok → Option ((Int × Int × Int) ⊕ (Int × ByteArray × Int × Int × (List Node) × (List ByteArray) × Int))} {d : Int} (hE : ∀ (d' p : Int), d < d' → d' ≤ 61 → 0 ≤ p → p < L.length → OS2 (er d' p L) (fun y => 0 ≤ y.1 ∧ y.1 ≤ S ∧ (y.2.1 = 100 ∨ y.2.1 = 150)) (fun y => p < y.2.2.2.2.2.2 ∧ y.2.2.2.2.2.2 < L.length)) (hd0 : 0 ≤ d) (hd : d ≤ 60) : ∀ (k : Nat) (n p : Int), 0 ≤ n → n ≤ 5 → 6 - n ≤ k → 0 ≤ p → p < L.length → OS2 (parse_parser_level_R N er k n d p L) (fun y => 0 ≤ y.1 ∧ y.1 ≤ S ∧ (y.2.1 = 100 ∨ y.2.1 = 150)) (fun y => p < y.2.2.2.2.2.2 ∧ y.2.2.2.2.2.2 < L.length)
  | 0, n, p, h1, h2, h3, _, _ => by omega
  | k + 1, n, p, h1, h2, h3, hp0, hp => by
    have hlen := hG.len
    have e1 : IntKind.i64.wrap (n + 1) = n + 1 := i64_in (by omega)
    refine OS2.of ?_
    refine TS.br (fun hc => ?_) (fun hc => ?_)
    · refine TS.callS (unary_ok N hN hG hE hd0 N d p (Int.le_refl _) (by omega) (by omega) hp0 hp) (fun a ha => TS.ret ha) (fun c hc => TS.ret hc)
    · have hn : n ≠ 5 := by simpa using hc
      dsimp only
      rw [e1]
      refine TS.callS (level_ok hE hd0 hd k (n + 1) p (by omega) (by omega) (by omega) hp0 hp) (fun a ha => TS.ret ha) (fun b hb => ?_)
      have hj10 : ∀ (q : Int) a1 a2 a3 a4 a5 a6, p < q → q < L.length → OS2 (parse_parser_level_j10 N er (parse_parser_level_R N er k) n d q a1 a2 a3 a4 a5 a6 L) (fun y => 0 ≤ y.1 ∧ y.1 ≤ S ∧ (y.2.1 = 100 ∨ y.2.1 = 150)) (fun y => q < y.1 ∧ y.1 < L.length) := by
        intro q a1 a2 a3 a4 a5 a6 hq1 hq2
        refine OS2.of ?_
        dsimp only [parse_parser_level_j10_T]
        rw [e1]
        refine TS.callS (level_ok hE hd0 hd k (n + 1) q (by omega) (by omega) (by omega) (by omega) hq2) (fun a ha => TS.ret ha) (fun c hc => ?_)
        exact TS.call (P := fun _ => True) ⟨(), rfl, trivial⟩ (fun _ _ => TS.ret hc)
      have hj7 : ∀ (q : Int) a1 a2 a3 a4 a5 a6, p < q → q < L.length → OS2 (parse_parser_level_j7 N er (parse_parser_level_R N er k) n d q a1 a2 a3 a4 a5 a6 L) (fun y => 0 ≤ y.1 ∧ y.1 ≤ S ∧ (y.2.1 = 100 ∨ y.2.1 = 150)) (fun y => q < y.1 ∧ y.1 < L.length) := by
        intro q a1 a2 a3 a4 a5 a6 hq1 hq2
        refine OS2.of ?_
        refine TS.br (fun _ => ?_) (fun _ => ?_) <;> exact TS.callS (hj10 q a1 a2 a3 a4 a5 a6 hq1 hq2) (fun a ha => TS.ret ha) (fun c hc => TS.ret hc)
      have hloop : ∀ (at' : Int) (v : Int × Int × ByteArray × Int × (List Node) × (List ByteArray)), p < v.1 → v.1 < (L.length : Int) → OS2 (parse_parser_level_l4 N er (parse_parser_level_R N er k) n d at' L v) (fun y => p < y.1 ∧ y.1 < L.length) (fun y => 0 ≤ y.1 ∧ y.1 ≤ S ∧ (y.2.1 = 100 ∨ y.2.1 = 150)) := by
        intro at' v0 h4 h5
        refine OS.two (loop_ts (fun v : Int × Int × ByteArray × Int × (List Node) × (List ByteArray) => p < v.1 ∧ v.1 < (L.length : Int)) (fun v => ((L.length : Int) - v.1).toNat) _ ?_ N _ ⟨h4, h5⟩ (by omega))
        intro v hv
        refine TS.call (tok_ok N hG (by omega) hv.2) (fun t ht => ?_)
        refine TS.br (fun _ => TS.ret hv) (fun _ => ?_)
        refine TS.brT (by rw [inRange_iff]; omega) ?_
        refine TS.call (goes_ok N hN hG (by simp) (by omega) hv.2) (fun y hy => ?_)
        refine TS.br (fun hc => TS.ret ⟨by dsimp only; omega, hy.2.1⟩) (fun hc => ?_)
        have hy1 : y.1 = true := by simpa using hc
        have := hy.2.2 hy1
        exact TS.callS (hj7 _ _ _ _ _ _ _ (by omega) hy.2.1) (fun a ha => TS.ret ha) (fun c hc => TS.ret (by dsimp only; omega))
      exact TS.callS (hloop _ _ hb.1 hb.2) (fun a ha => TS.ret ha) (fun c hc => TS.ret hc)

theorem exprR_ok : ∀ (k : Nat) (d p : Int), 0 ≤ d → d ≤ 61 → 62 - d ≤ k → 0 ≤ p → p < L.length → OS2 (parse_parser_expr_R N k d p L) (fun y => 0 ≤ y.1 ∧ y.1 ≤ S ∧ (y.2.1 = 100 ∨ y.2.1 = 150)) (fun y => p < y.2.2.2.2.2.2 ∧ y.2.2.2.2.2.2 < L.length)
  | 0, d, p, h1, h2, h3, _, _ => by omega
  | k + 1, d, p, h1, h2, h3, hp0, hp => by
    refine OS2.of ?_
    refine TS.callS (deep_ok N hG hp0 hp) (fun a ha => TS.ret (by dsimp only; omega)) (fun b hb => ?_)
    refine TS.callS (level_ok N hN hG (fun d' p h4 h5 h6 h7 => exprR_ok k d' p (by omega) h5 (by omega) h6 h7) h1 hb N 0 p (by omega) (by omega) (by omega) hp0 hp) (fun a ha => TS.ret ha) (fun c hc => TS.ret hc)

theorem expr_ok {d p : Int} (hd0 : 0 ≤ d) (hd : d ≤ 61) (hp0 : 0 ≤ p) (hp : p < L.length) : OS2 (parse_parser_expr N d p L) (fun y => 0 ≤ y.1 ∧ y.1 ≤ S ∧ (y.2.1 = 100 ∨ y.2.1 = 150)) (fun y => p < y.2.2.2.2.2.2 ∧ y.2.2.2.2.2.2 < L.length) := exprR_ok N hN hG N d p hd0 hd (by omega) hp0 hp
end
end Go.Proofs.YtfbnofpfinenkaaDoorV
