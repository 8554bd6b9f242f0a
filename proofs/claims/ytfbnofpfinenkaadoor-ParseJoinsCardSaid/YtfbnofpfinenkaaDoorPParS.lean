/- The parser over tokens that agree so far: names, signs, expressions. -/
import Derived.Test.YtfbnofpfinenkaaDoorPParR
namespace Go.Proofs.YtfbnofpfinenkaaDoorV
set_option linter.unusedVariables false
set_option linter.unusedSimpArgs false

/-- Tokens that are the same from a place on, but for where they stand, for m of them. -/
structure Ag (L L' : List Tok) (m off : Int) : Prop where
  off0 : 0 ≤ off
  room : m + off ≤ L'.length
  len : L'.length ≤ 4001
  ag : ∀ i : Int, 0 ≤ i → i < m → (L'.getD (i + off).toNat dt).1 = (L.getD i.toNat dt).1 ∧ (L'.getD (i + off).toNat dt).2.1 = (L.getD i.toNat dt).2.1

/-- Rounds, side by side. -/
theorem loop_rel {X Y X' Y' : Type} {s : X → Tree (X ⊕ Y)} {s' : X' → Tree (X' ⊕ Y')} (I : X → Prop) (μ : X → Nat) (Q : Y → Prop) (pos : X → Int) (m : Int) (G : Y → Prop) (Rx : X → X' → Prop) (Ry : Y → Y' → Prop)
    (h : ∀ x, I x → TS (s x) (fun r => match r with
      | .inl x1 => I x1 ∧ μ x1 < μ x ∧ pos x ≤ pos x1 ∧ (pos x1 < m → ∀ x', Rx x x' → ∃ x1', (s' x').run some = some (.inl x1') ∧ Rx x1 x1')
      | .inr y => Q y ∧ (G y → pos x < m ∧ ∀ x', Rx x x' → ∃ y', (s' x').run some = some (.inr y') ∧ Ry y y'))) :
    ∀ (k : Nat) (x : X), I x → μ x < k → OS (loopN s k x) (fun y => Q y ∧ (G y → pos x < m ∧ ∀ (k' : Nat) (x' : X'), μ x < k' → Rx x x' → ∃ y', loopN s' k' x' = some y' ∧ Ry y y'))
  | 0, x, _, hm => by omega
  | k + 1, x, hi, hm => by
    obtain ⟨r, h1, h2⟩ := h x hi
    cases r with
    | inl x1 =>
      obtain ⟨i1, i2, i3, i4⟩ := h2
      obtain ⟨y, h3, hq, h4⟩ := loop_rel I μ Q pos m G Rx Ry h k x1 i1 (by omega)
      refine ⟨y, ?_, hq, fun hg => ?_⟩
      · simp only [loopN]
        rw [run_any h1]
        exact h3
      · obtain ⟨h5, h6⟩ := h4 hg
        refine ⟨by omega, fun k' x' hk hx => ?_⟩
        obtain ⟨k'', rfl⟩ : ∃ j, k' = j + 1 := ⟨k' - 1, by omega⟩
        obtain ⟨x1', e1, e2⟩ := i4 h5 x' hx
        obtain ⟨y', e3, e4⟩ := h6 k'' x1' (by omega) e2
        refine ⟨y', ?_, e4⟩
        simp only [loopN]
        rw [run_any e1]
        exact e3
    | inr y =>
      refine ⟨y, ?_, h2.1, fun hg => ?_⟩
      · simp only [loopN]
        rw [run_any h1]
      · obtain ⟨h5, h6⟩ := h2.2 hg
        refine ⟨h5, fun k' x' hk hx => ?_⟩
        obtain ⟨k'', rfl⟩ : ∃ j, k' = j + 1 := ⟨k' - 1, by omega⟩
        obtain ⟨y', e1, e2⟩ := h6 x' hx
        refine ⟨y', ?_, e2⟩
        simp only [loopN]
        rw [run_any e1]

section
variable (N : Nat) (hN : 20030 < N) {L L' : List Tok} {S m off : Int} (hG : GL' L S) (hA : Ag L L' m off)
include hG hA

theorem tokR {p : Int} (hp0 : 0 ≤ p) (hp : p < L.length) : OS (parse_tokens_tok N p L) (fun t => 0 ≤ t.2.2 ∧ t.2.2 ≤ S ∧ (t.2.1.size : Int) ≤ 20000 ∧ (t.1 ≠ 0 → p + 1 < L.length) ∧ (p < m → ∃ a, parse_tokens_tok N (p + off) L' = some (t.1, t.2.1, a))) := by
  obtain ⟨t, ht, h⟩ := tok_ok N hG hp0 hp
  refine ⟨t, ht, h.1, h.2.1, h.2.2.1, h.2.2.2, fun hm => ?_⟩
  have ho := hA.off0
  have hr := hA.room
  have hc : inRange p L.length = true := by rw [inRange_iff]; exact ⟨hp0, hp⟩
  have hc' : inRange (p + off) L'.length = true := by rw [inRange_iff]; omega
  have e : t = ((L.getD p.toNat dt).1, (L.getD p.toNat dt).2.1, (L.getD p.toNat dt).2.2) := by
    have : parse_tokens_tok N p L = some ((L.getD p.toNat dt).1, (L.getD p.toNat dt).2.1, (L.getD p.toNat dt).2.2) := by
      simp only [parse_tokens_tok, parse_tokens_tok_T, hc]
      rfl
    rw [this] at ht
    exact (Option.some.inj ht).symm
  obtain ⟨e1, e2⟩ := hA.ag p hp0 hm
  refine ⟨(L'.getD (p + off).toNat dt).2.2, ?_⟩
  have : parse_tokens_tok N (p + off) L' = some ((L'.getD (p + off).toNat dt).1, (L'.getD (p + off).toNat dt).2.1, (L'.getD (p + off).toNat dt).2.2) := by
    simp only [parse_tokens_tok, parse_tokens_tok_T, hc']
    rfl
  rw [this, e, e1, e2]

include hN

theorem goesR {l : List ByteArray} (hl : l.length ≤ 100) {p : Int} (hp0 : 0 ≤ p) (hp : p < L.length) : OS (parse_tokens_goes N l p L) (fun r => p ≤ r.2 ∧ r.2 < L.length ∧ (r.1 = true → p < r.2) ∧ (p < m → parse_tokens_goes N l (p + off) L' = some (r.1, r.2 + off))) := by
  obtain ⟨t, ht, h1, h2, h3, h4, h5⟩ := tokR N hG hA hp0 hp
  obtain ⟨r, hr, g1, g2, g3⟩ := goes_ok N hN hG hl hp0 hp
  refine ⟨r, hr, g1, g2, g3, fun hm => ?_⟩
  obtain ⟨a, ha⟩ := h5 hm
  have ho := hA.off0
  have hrm := hA.room
  have hlen := hA.len
  have hlen1 := hG.len
  obtain ⟨b, hb, _⟩ := contains_ok N hN (x := t.2.1) hl
  have j := fun c => j3_ok N (b := c) (p := p) hp0 (by omega)
  have j' := fun c => j3_ok N (b := c) (p := p + off) (by omega) (by omega)
  simp only [parse_tokens_goes, parse_tokens_goes_T, run_br, run_call, run_ret, ht, ha, hb, j, j', Option.bind_some] at hr ⊢
  by_cases c1 : (t.1 == 4) = true
  · rw [if_pos c1] at hr ⊢
    cases b <;> simp only [Bool.false_eq_true, if_false, if_true, run_inl, run_inr, run_ret, Option.some.injEq] at hr ⊢ <;> subst hr <;> (simp only [Prod.mk.injEq, true_and]; try omega)
  · rw [if_neg c1] at hr ⊢
    by_cases c2 : (t.1 == 3) = true
    · rw [if_pos c2] at hr ⊢
      cases b <;> simp only [Bool.false_eq_true, if_false, if_true, run_inl, run_inr, run_ret, Option.some.injEq] at hr ⊢ <;> subst hr <;> (simp only [Prod.mk.injEq, true_and]; try omega)
    · rw [if_neg c2] at hr ⊢
      simp only [Bool.false_eq_true, if_false, run_inr, run_ret, Option.some.injEq] at hr ⊢
      subst hr
      rfl

omit hN in
theorem nameR {p : Int} (hp0 : 0 ≤ p) (hp : p < L.length) : OS2 (parse_tokens_name N p L) (fun y => 0 ≤ y ∧ y ≤ S) (fun y => p < y.2 ∧ y.2 < L.length ∧ (p < m → parse_tokens_name N (p + off) L' = some (.inr (y.1, y.2 + off)))) := by
  rcases name_ok N hG hp0 hp with ⟨a, h, hp'⟩ | ⟨b, h, hb1, hb2⟩
  · exact .inl ⟨a, h, hp'⟩
  · refine .inr ⟨b, h, hb1, hb2, fun hm => ?_⟩
    obtain ⟨t, ht, h1, h2, h3, h4, h5⟩ := tokR N hG hA hp0 hp
    obtain ⟨a, ha⟩ := h5 hm
    have ho := hA.off0
    have hrm := hA.room
    have hlen := hA.len
    have hlen1 := hG.len
    obtain ⟨f, hf, _⟩ := fail_ok N hG hp0 hp
    have j1 : parse_tokens_name_j4 N p = some (p + 1) := by
      simp only [parse_tokens_name_j4, parse_tokens_name_j4_T, run_ret]; rw [i64_in (by omega)]
    have j2 : parse_tokens_name_j4 N (p + off) = some (p + off + 1) := by
      simp only [parse_tokens_name_j4, parse_tokens_name_j4_T, run_ret]; rw [i64_in (by omega)]
    simp only [parse_tokens_name, parse_tokens_name_T, run_br, run_call, run_ret, ht, ha, hf, j1, j2, Option.bind_some] at h ⊢
    by_cases c : (t.1 != 1) = true
    · rw [if_pos c] at h; cases h
    · rw [if_neg c] at h ⊢
      simp only [Option.some.injEq, Sum.inr.injEq] at h
      subst h
      simp only [Option.some.injEq, Sum.inr.injEq, Prod.mk.injEq, true_and]
      omega

theorem mustR {s : ByteArray} {p : Int} (hp0 : 0 ≤ p) (hp : p < L.length) : OS2 (parse_tokens_must N s p L) (fun y => 0 ≤ y.1 ∧ y.1 ≤ S) (fun y => p < y ∧ y < L.length ∧ (p < m → parse_tokens_must N s (p + off) L' = some (.inr (y + off)))) := by
  refine OS2.of (TS.call (goesR N hN hG hA (by simp) hp0 hp) (fun y hy => ?_))
  dsimp only
  refine TS.br (fun hc => ?_) (fun hc => ?_)
  · exact TS.call (fail_ok N hG (by omega) (by omega)) (fun z hz => TS.ret hz)
  · have h1 : y.1 = true := by simpa using hc
    refine TS.ret ⟨hy.2.2.1 h1, hy.2.1, fun hm => ?_⟩
    have := hy.2.2.2 hm
    simp only [parse_tokens_must, parse_tokens_must_T, run_br, run_call, run_ret, this, Option.bind_some, h1]
    rfl

omit hN hG hA in
theorem deepR {d p : Int} (hd : d ≤ 60) : parse_parser_deep N d (p + off) L' = some (.inr ()) := by
  have : ltI 60 d = false := by rw [ltI_eq]; simpa using hd
  simp only [parse_parser_deep, parse_parser_deep_T, run_br, run_ret, this]
  rfl

theorem namesR {p : Int} (hp0 : 0 ≤ p) (hp : p < L.length) : OS2 (parse_tokens_names N p L) (fun y => 0 ≤ y.1 ∧ y.1 ≤ S) (fun y => p < y.2 ∧ y.2 < L.length ∧ (y.1.length : Int) ≤ y.2 ∧ (y.2 < m → parse_tokens_names N (p + off) L' = some (.inr (y.1, y.2 + off)))) := by
  have hlen := hG.len
  have hlen' := hA.len
  have hrm := hA.room
  have ho := hA.off0
  have hpos := hG.pos
  refine OS2.of ?_
  refine TS.callS (nameR N hG hA hp0 hp) (fun a ha => TS.ret ha) (fun b hb => ?_)
  have hloop := loop_rel (s := fun v => parse_tokens_names_l2_T N L v.1 v.2) (s' := fun v => parse_tokens_names_l2_T N L' v.1 v.2) (fun v : Int × List ByteArray => p < v.1 ∧ v.1 < (L.length : Int) ∧ (v.2.length : Int) ≤ v.1) (fun v => ((L.length : Int) - v.1).toNat)
    (fun r : (Int × Int) ⊕ (Int × List ByteArray) => match r with | .inl y => 0 ≤ y.1 ∧ y.1 ≤ S | .inr y => p < y.1 ∧ y.1 < (L.length : Int) ∧ (y.2.length : Int) ≤ y.1) (fun v => v.1) m (fun r => match r with | .inl _ => False | .inr y => y.1 < m)
    (fun x x' => x' = (x.1 + off, x.2)) (fun y y' => match y with | .inl _ => False | .inr y => y' = .inr (y.1 + off, y.2)) ?_ N (b.2, [b.1]) ⟨hb.1, hb.2.1, by simp; omega⟩ (by dsimp only; omega)
  · obtain ⟨r, hr, hq, hg⟩ := hloop
    refine TS.call (P := fun x => x = r) ⟨r, hr, rfl⟩ (fun x hx => ?_)
    subst hx
    cases x with
    | inl a => exact TS.ret hq
    | inr c =>
      refine TS.ret ⟨hq.1, hq.2.1, hq.2.2, fun hm => ?_⟩
      obtain ⟨h1, h2⟩ := hg hm
      obtain ⟨y', e1, e2⟩ := h2 N (b.2 + off, [b.1]) (by dsimp only; omega) rfl
      have hn := hb.2.2 (by omega)
      subst e2
      have e3 : parse_tokens_names_l2 N L' (b.2 + off, [b.1]) = some (.inr (c.1 + off, c.2)) := e1
      simp only [parse_tokens_names, parse_tokens_names_T, run_call, hn, e3, Option.bind_some, run_inr, run_ret]
  · intro v hv
    refine TS.call (goesR N hN hG hA (by simp) (by omega) hv.2.1) (fun y hy => ?_)
    refine TS.br (fun hc => ?_) (fun hc => ?_)
    · have := hy.2.2.1 hc
      refine TS.callS (nameR N hG hA (by omega) hy.2.1) (fun a ha => TS.ret ⟨ha, fun h => h.elim⟩) (fun b hb => ?_)
      have hgd : ltI (((v.2.length : Int) + 1) * 16) 140737488355328 = true := by rw [ltI_iff]; omega
      refine TS.brT hgd (TS.ret ⟨?_, by dsimp only; omega, by dsimp only; omega, fun hm x' hx => ?_⟩)
      · dsimp only
        simp only [List.length_append, List.length_singleton]
        omega
      · subst hx
        dsimp only at hm
        have h1 := hy.2.2.2 (by omega)
        have h2 := hb.2.2 (by omega)
        refine ⟨_, ?_, rfl⟩
        simp only [parse_tokens_names_l2_T, run_call, h1, Option.bind_some, run_br, hc, if_true, h2, run_inr, run_ret, hgd]
    · refine TS.ret ⟨⟨by dsimp only; omega, hy.2.1, by dsimp only; omega⟩, fun hm => ?_⟩
      dsimp only at hm
      refine ⟨by omega, fun x' hx => ?_⟩
      subst hx
      have h1 := hy.2.2.2 (by omega)
      refine ⟨_, ?_, rfl⟩
      simp only [parse_tokens_names_l2_T, run_call, h1, Option.bind_some, run_br, hc, Bool.false_eq_true, if_false, run_ret]
end
end Go.Proofs.YtfbnofpfinenkaaDoorV
