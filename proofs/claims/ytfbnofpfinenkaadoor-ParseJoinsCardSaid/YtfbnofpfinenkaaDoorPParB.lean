/- Statements, programs, texts: the plain law ParseTells (printed by wip/pure/parb_gen.py). -/
import Derived.Test.YtfbnofpfinenkaaDoorPParA
namespace Go.Proofs.YtfbnofpfinenkaaDoorV
set_option linter.unusedVariables false
set_option linter.unusedSimpArgs false

theorem TS.alt {α A B : Type} {s : A ⊕ B} {f : A → Tree α} {g : B → Tree α} {Q : α → Prop} (hf : ∀ a, s = .inl a → TS (f a) Q) (hg : ∀ b, s = .inr b → TS (g b) Q) : TS (.alt s f g) Q := by
  cases s with
  | inl a => exact hf a rfl
  | inr b => exact hg b rfl

section
variable (N : Nat) (hN : 20030 < N) {L : List Tok} {S : Int} (hG : GL' L S)
include hN hG
theorem output_ok {p : Int} (hp0 : 0 ≤ p) (hp : p < L.length) : OS2 (parse_parser_output N p L) (fun y => 0 ≤ y.1 ∧ y.1 ≤ S ∧ (y.2.1 = 100 ∨ y.2.1 = 150)) (fun y => p < y.2.2 ∧ y.2.2 < L.length) := by
  refine OS2.of ?_
  refine TS.callS (name_ok N hG (by omega) (by omega)) (fun a ha => TS.ret (by dsimp only; omega)) (fun b hb => ?_)
  refine TS.callS (must_ok N hN hG (by omega) (by omega)) (fun a ha => TS.ret (by dsimp only; omega)) (fun c hc => ?_)
  refine TS.callS (expr_ok N hN hG (by omega) (by omega) (by omega) (by omega)) (fun a ha => TS.ret ha) (fun f hf => ?_)
  refine TS.callS (must_ok N hN hG (by omega) (by omega)) (fun a ha => TS.ret (by dsimp only; omega)) (fun g hg => ?_)
  refine TS.call (P := fun _ => True) ⟨(), rfl, trivial⟩ (fun _ _ => ?_)
  exact TS.ret (by dsimp only; omega)

theorem innerR_ok : ∀ (k : Nat) (d p : Int), 0 ≤ d → d ≤ 61 → 62 - d ≤ k → 0 ≤ p → p < L.length → OS2 (parse_parser_inner_R N k d p L) (fun y => 0 ≤ y.1 ∧ y.1 ≤ S ∧ (y.2.1 = 100 ∨ y.2.1 = 150)) (fun y => p < y.2.2.2.2 ∧ y.2.2.2.2 < L.length)
  | 0, d, p, h1, h2, h3, _, _ => by omega
  | k + 1, d, p, h1, h2, h3, hp0, hp => by
    have hlen := hG.len
    have e1 : IntKind.i64.wrap (d + 1) = d + 1 := i64_in (by omega)
    have hloop : ∀ v : Int × List Node, d ≤ 60 → 2 ≤ v.1 → p < v.1 → v.1 < (L.length : Int) → (v.2.length : Int) ≤ v.1 → OS2 (parse_parser_inner_l15 N (parse_parser_inner_R N k) d L v) (fun y => 0 ≤ y.1 ∧ y.1 ≤ S ∧ (y.2.1 = 100 ∨ y.2.1 = 150)) (fun y => p < y.1 ∧ y.1 < L.length) := by
      intro v0 hd h2 h1 h2 h3
      refine OS.two (loop_ts (fun v : Int × List Node => p < v.1 ∧ v.1 < (L.length : Int) ∧ (v.2.length : Int) ≤ v.1) (fun v => ((L.length : Int) - v.1).toNat) _ ?_ N _ ⟨h1, h2, h3⟩ (by omega))
      intro v hv
      refine TS.call (goes_ok N hN hG (by simp) (by omega) hv.2.1) (fun y hy => ?_)
      refine TS.br (fun hc => ?_) (fun hc => TS.ret ⟨by dsimp only; omega, hy.2.1⟩)
      dsimp only
      rw [e1]
      refine TS.callS (innerR_ok k (d + 1) y.2 (by omega) (by omega) (by omega) (by omega) hy.2.1) (fun a ha => TS.ret ha) (fun b hb => ?_)
      refine TS.brT (by rw [ltI_iff]; omega) (TS.ret ?_)
      dsimp only
      simp only [List.length_append, List.length_singleton]
      omega
    refine OS2.of ?_
    refine TS.call (tok_ok N hG hp0 hp) (fun t ht => ?_)
    refine TS.callS (deep_ok N hG hp0 hp) (fun a ha => TS.ret (by dsimp only; omega)) (fun b hb => ?_)
    refine TS.call (goes_ok N hN hG (by simp) hp0 hp) (fun y hy => ?_)
    refine TS.br (fun hc => ?_) (fun hc => ?_)
    · skip
      refine TS.callS (name_ok N hG (by omega) (by omega)) (fun a ha => TS.ret (by dsimp only; omega)) (fun c hc => ?_)
      refine TS.callS (must_ok N hN hG (by omega) (by omega)) (fun a ha => TS.ret (by dsimp only; omega)) (fun f hf => ?_)
      refine TS.callS (expr_ok N hN hG (by omega) (by omega) (by omega) (by omega)) (fun a ha => TS.ret ha) (fun g hg => ?_)
      refine TS.callS (must_ok N hN hG (by omega) (by omega)) (fun a ha => TS.ret (by dsimp only; omega)) (fun i hi => ?_)
      refine TS.call (P := fun _ => True) ⟨(), rfl, trivial⟩ (fun _ _ => ?_)
      exact TS.ret (by dsimp only; omega)
    · skip
      refine TS.callS (name_ok N hG (by omega) (by omega)) (fun a ha => TS.ret (by dsimp only; omega)) (fun c hc => ?_)
      refine TS.callS (must_ok N hN hG (by omega) (by omega)) (fun a ha => TS.ret (by dsimp only; omega)) (fun f hf => ?_)
      refine TS.callS (expr_ok N hN hG (by omega) (by omega) (by omega) (by omega)) (fun a ha => TS.ret ha) (fun g hg => ?_)
      refine TS.callS (must_ok N hN hG (by omega) (by omega)) (fun a ha => TS.ret (by dsimp only; omega)) (fun i hi => ?_)
      refine TS.callS (expr_ok N hN hG (by omega) (by omega) (by omega) (by omega)) (fun a ha => TS.ret ha) (fun j hj => ?_)
      refine TS.call (P := fun _ => True) ⟨(), rfl, trivial⟩ (fun _ _ => ?_)
      refine TS.callS (must_ok N hN hG (by omega) (by omega)) (fun a ha => TS.ret (by dsimp only; omega)) (fun o ho => ?_)
      refine TS.callS (hloop _ hb (by dsimp only; omega) (by dsimp only; omega) (by dsimp only; omega) (by dsimp only; simp; omega)) (fun a ha => TS.ret ha) (fun z hz => ?_)
      exact TS.ret (by dsimp only; omega)

theorem inner_ok {d p : Int} (hd0 : 0 ≤ d) (hd : d ≤ 61) (hp0 : 0 ≤ p) (hp : p < L.length) : OS2 (parse_parser_inner N d p L) (fun y => 0 ≤ y.1 ∧ y.1 ≤ S ∧ (y.2.1 = 100 ∨ y.2.1 = 150)) (fun y => p < y.2.2.2.2 ∧ y.2.2.2.2 < L.length) := innerR_ok N hN hG N d p hd0 hd (by omega) hp0 hp

theorem sj7_ok {p : Int} (hp0 : 0 ≤ p) (hp : p < L.length) : OS2 (parse_parser_stmt_j7 N p L) (fun y => 0 ≤ y.1 ∧ y.1 ≤ S) (fun y => p < y.1 ∧ y.1 < L.length) := by
  refine OS2.of ?_
  refine TS.callS (names_ok N hN hG (by omega) (by omega)) (fun a ha => TS.ret (by dsimp only; omega)) (fun b hb => ?_)
  refine TS.callS (must_ok N hN hG (by omega) (by omega)) (fun a ha => TS.ret (by dsimp only; omega)) (fun c hc => ?_)
  exact TS.ret (by dsimp only; omega)

theorem sj4_ok {b : Bool} {p : Int} (hp0 : 0 ≤ p) (hp : p < L.length) (hb : b = true → 0 < p) : OS2 (parse_parser_stmt_j4 N b p L) (fun y => 0 ≤ y.1 ∧ y.1 ≤ S ∧ (y.2.1 = 100 ∨ y.2.1 = 150)) (fun r => match r with
    | .inl y => p < y.1 ∧ y.1 < L.length
    | .inr (.inl y) => p < y.1 ∧ y.1 < L.length
    | .inr (.inr q) => p ≤ q ∧ q < L.length) := by
  have hlen := hG.len
  refine OS2.of ?_
  refine TS.br (fun hc => ?_) (fun hc => ?_)
  · have h0 := hb hc
    refine TS.call (P := fun _ => True) ⟨(), rfl, trivial⟩ (fun _ _ => ?_)
    dsimp only
    rw [i64_in (by omega)]
    refine TS.brT (by rw [inRange_iff]; omega) ?_
    refine TS.br (fun _ => ?_) (fun _ => ?_)
    · exact TS.callS (sj7_ok N hN hG (by omega) (by omega)) (fun a ha => TS.ret (by dsimp only; omega)) (fun c hc => TS.ret hc)
    · exact TS.callS (sj7_ok N hN hG (by omega) (by omega)) (fun a ha => TS.ret (by dsimp only; omega)) (fun c hc => TS.ret hc)
  · refine TS.call (goes_ok N hN hG (by simp) hp0 hp) (fun y hy => ?_)
    refine TS.br (fun hc => ?_) (fun hc => ?_)
    · exact TS.callS (output_ok N hN hG (by omega) hy.2.1) (fun a ha => TS.ret ha) (fun c hc => TS.ret (by dsimp only; omega))
    · refine TS.call (goes_ok N hN hG (by simp) (by omega) hy.2.1) (fun z hz => ?_)
      refine TS.br (fun hc => ?_) (fun hc => ?_)
      · exact TS.callS (output_ok N hN hG (by omega) hz.2.1) (fun a ha => TS.ret ha) (fun c hc => TS.ret (by dsimp only; omega))
      · refine TS.call (goes_ok N hN hG (by simp) (by omega) hz.2.1) (fun x hx => ?_)
        refine TS.br (fun hc => ?_) (fun hc => ?_)
        · dsimp only
          have hx1 := hx.2.2 hc
          refine TS.callS (name_ok N hG (by omega) (by omega)) (fun a ha => TS.ret (by dsimp only; omega)) (fun b hb => ?_)
          refine TS.call (P := fun _ => True) ⟨(), rfl, trivial⟩ (fun _ _ => ?_)
          refine TS.callS (must_ok N hN hG (by omega) (by omega)) (fun a ha => TS.ret (by dsimp only; omega)) (fun c hc => ?_)
          refine TS.callS (names_ok N hN hG (by omega) (by omega)) (fun a ha => TS.ret (by dsimp only; omega)) (fun f hf => ?_)
          refine TS.callS (must_ok N hN hG (by omega) (by omega)) (fun a ha => TS.ret (by dsimp only; omega)) (fun g hg => ?_)
          refine TS.callS (must_ok N hN hG (by omega) (by omega)) (fun a ha => TS.ret (by dsimp only; omega)) (fun i hi => ?_)
          refine TS.callS (expr_ok N hN hG (by omega) (by omega) (by omega) (by omega)) (fun a ha => TS.ret ha) (fun j hj => ?_)
          refine TS.callS (must_ok N hN hG (by omega) (by omega)) (fun a ha => TS.ret (by dsimp only; omega)) (fun o ho => ?_)
          exact TS.ret (by dsimp only; omega)
        · exact TS.ret (by dsimp only; omega)

theorem stmt_ok {p : Int} (hp0 : 0 ≤ p) (hp : p < L.length) : OS2 (parse_parser_stmt N p L) (fun y => 0 ≤ y.1 ∧ y.1 ≤ S ∧ (y.2.1 = 100 ∨ y.2.1 = 150)) (fun y => p < y.2.2.2.2.2 ∧ y.2.2.2.2.2 < L.length) := by
  refine OS2.of ?_
  refine TS.call (tok_ok N hG hp0 hp) (fun t ht => ?_)
  refine TS.call (goes_ok N hN hG (by simp) hp0 hp) (fun y hy => ?_)
  have go : ∀ (b : Bool) (q : Int) (R : (Int × Int × ByteArray × (List ByteArray) × (List Node)) ⊕ (Int × Int × ByteArray × (List Node)) ⊕ Int), p ≤ q → (match R with
    | .inl y => q < y.1 ∧ y.1 < L.length
    | .inr (.inl y) => q < y.1 ∧ y.1 < L.length
    | .inr (.inr q') => q ≤ q' ∧ q' < L.length) → TS (.alt R (fun y6 => .ret (.inr (y6.2.1, y6.2.2.1, t.2.2, y6.2.2.2.2, y6.2.2.2.1, y6.1))) (fun y7 => .alt y7 (fun y8 => .ret (.inr (y8.2.1, y8.2.2.1, t.2.2, y8.2.2.2, [], y8.1))) (fun y9 => .call (parse_parser_inner N 0 y9 L) fun y10 => .alt y10 (fun y11 => .ret (.inl (y11.1, y11.2.1, y11.2.2))) (fun y12 => .ret (.inr (y12.1, y12.2.1, y12.2.2.1, y12.2.2.2.1, [], y12.2.2.2.2))))))
      (fun r : (Int × Int × Int) ⊕ (Int × ByteArray × Int × (List Node) × (List ByteArray) × Int) => match r with | .inl y => 0 ≤ y.1 ∧ y.1 ≤ S ∧ (y.2.1 = 100 ∨ y.2.1 = 150) | .inr y => p < y.2.2.2.2.2 ∧ y.2.2.2.2.2 < L.length) := by
    intro b q R hq hR
    rcases R with x | x | x
    · exact TS.ret ⟨by dsimp only at hR ⊢; omega, by dsimp only at hR ⊢; omega⟩
    · exact TS.ret ⟨by dsimp only at hR ⊢; omega, by dsimp only at hR ⊢; omega⟩
    · dsimp only at hR
      exact TS.callS (inner_ok N hN hG (by omega) (by omega) (by omega) hR.2) (fun a ha => TS.ret ha) (fun c hc => TS.ret ⟨by dsimp only; omega, hc.2⟩)
  refine TS.br (fun hc => ?_) (fun hc => ?_)
  · refine TS.callS (sj4_ok N hN hG (by omega) hy.2.1 (fun h => by have := hy.2.2 h; omega)) (fun a ha => TS.ret ha) (fun c hc => ?_)
    exact (go true y.2 c hy.1 hc).mono (fun r h => by cases r <;> exact h)
  · refine TS.call (goes_ok N hN hG (by simp) (by omega) hy.2.1) (fun z hz => ?_)
    refine TS.callS (sj4_ok N hN hG (by omega) hz.2.1 (fun h => by have := hz.2.2 h; omega)) (fun a ha => TS.ret ha) (fun c hc => ?_)
    exact (go true z.2 c (by omega) hc).mono (fun r h => by cases r <;> exact h)

theorem program_ok {p : Int} (hp0 : 0 ≤ p) (hp : p < L.length) : OS2 (parse_parser_program N p L) (fun y => 0 ≤ y.1 ∧ y.1 ≤ S ∧ (y.2.1 = 100 ∨ y.2.1 = 150)) (fun y => 0 ≤ y.2.2 ∧ y.2.2 < L.length) := by
  have hlen := hG.len
  have hloop : ∀ v : Int × List Node, 0 ≤ v.1 → v.1 < (L.length : Int) → (v.2.length : Int) ≤ v.1 → OS2 (parse_parser_program_l2 N L v) (fun y => 0 ≤ y.1 ∧ y.1 ≤ S ∧ (y.2.1 = 100 ∨ y.2.1 = 150)) (fun y => 0 ≤ y.1 ∧ y.1 < L.length) := by
    intro v0 h1 h2 h3
    refine OS.two (loop_ts (fun v : Int × List Node => 0 ≤ v.1 ∧ v.1 < (L.length : Int) ∧ (v.2.length : Int) ≤ v.1) (fun v => ((L.length : Int) - v.1).toNat) _ ?_ N _ ⟨h1, h2, h3⟩ (by omega))
    intro v hv
    refine TS.call (tok_ok N hG hv.1 hv.2.1) (fun t ht => ?_)
    refine TS.br (fun hc => ?_) (fun hc => TS.ret ⟨hv.1, hv.2.1⟩)
    refine TS.callS (stmt_ok N hN hG hv.1 hv.2.1) (fun a ha => TS.ret ha) (fun b hb => ?_)
    refine TS.brT (by rw [ltI_iff]; omega) (TS.ret ?_)
    dsimp only
    simp only [List.length_append, List.length_singleton]
    omega
  refine OS2.of ?_
  refine TS.call (tok_ok N hG hp0 hp) (fun t ht => ?_)
  refine TS.call (P := fun _ => True) ⟨(), rfl, trivial⟩ (fun _ _ => ?_)
  exact TS.callS (hloop _ hp0 hp (by dsimp only; simp; omega)) (fun a ha => TS.ret ha) (fun z hz => TS.ret hz)
end

theorem gl_of_fin {s : ByteArray} {l : List Tok} (h : Fin s l) (hs : s.size ≤ 20000) : GL' l s.size := by
  refine ⟨h.some, h.len, fun i hi => ?_, ?_⟩
  · obtain ⟨a, n, h1, h2, _, h4⟩ := (h.each i hi).1.size
    exact ⟨by omega, by omega, by omega⟩
  · exact (h.each (l.length - 1) (by have := h.some; omega)).2.2 rfl

theorem parse_ok (N : Nat) (hN : 20030 < N) (s : ByteArray) : OS2 (parse_Parse N s) (fun y => 0 ≤ y.1 ∧ y.1 ≤ s.size ∧ (y.2 = 100 ∨ y.2 = 150)) (fun _ => True) := by
  have hread : OS2 (parse_read N s) (fun y => 0 ≤ y.1 ∧ y.1 ≤ s.size ∧ (y.2 = 100 ∨ y.2 = 150)) (fun _ => True) := by
    refine OS2.of ?_
    refine TS.call (P := fun y => y = wds s) ⟨_, words_lex N s hN, rfl⟩ (fun y hy => ?_)
    subst hy
    refine TS.br (fun hc => ?_) (fun hc => ?_)
    · exact TS.ret (wds_err s (by simpa using hc))
    · have h0 : (wds s).2.1 = 0 := by simpa using hc
      rcases wds_ok s with ⟨_, hf, hsz⟩ | ⟨hn, _⟩
      · have hG := gl_of_fin hf hsz
        have hpos : (0 : Int) < ((wds s).2.2.length : Int) := by have := hf.some; omega
        have h1 : OS2 (parse_Parse_1 N 0 (wds s).2.2) (fun y => 0 ≤ y.1 ∧ y.1 ≤ (s.size : Int) ∧ (y.2.1 = 100 ∨ y.2.1 = 150)) (fun y => 0 ≤ y.2.2 ∧ y.2.2 < (wds s).2.2.length) :=
          OS2.of (TS.callS (program_ok N hN hG (Int.le_refl _) hpos) (fun a ha => TS.ret ha) (fun b hb => TS.ret hb))
        refine TS.callS h1 (fun a ha => TS.ret ha) (fun b hb => ?_)
        refine TS.call (tok_ok N hG hb.1 hb.2) (fun t ht => ?_)
        refine TS.br (fun _ => ?_) (fun _ => TS.ret trivial)
        exact TS.call (fail_ok N hG hb.1 hb.2) (fun z hz => TS.ret ⟨hz.1, hz.2, .inl rfl⟩)
      · exact absurd h0 hn
  exact OS2.of (TS.callS hread (fun a ha => TS.ret ha) (fun b hb => TS.ret trivial))

theorem plives_is : bautalaw10_lives 100002 = some true := by decide +kernel

theorem parseTells_law (s : ByteArray) (h : WF .str s) : bautalaw10_ParseTells 100002 s = some true := by
  have hN : 20030 < 100002 := by decide
  have : OS (bautalaw10_ParseTells 100002 s) (fun b => b = true) := by
    have hl : OS (bautalaw10_lives 100002) (fun b => b = true) := ⟨_, plives_is, rfl⟩
    refine TS.callS (parse_ok 100002 hN s) (fun y hy => ?_) (fun _ _ => TS.call hl (fun z hz => TS.ret hz))
    dsimp only
    have c0 : (y.2 == 0) = false := by
      cases hb : (y.2 == 0) with
      | false => rfl
      | true => have := eq_of_beq hb; omega
    rw [c0]
    refine TS.br (fun h => by cases h) (fun _ => ?_)
    refine TS.brT (by rw [leI_iff]; exact hy.1) ?_
    refine TS.brT (by rw [leI_iff]; exact hy.2.1) ?_
    refine TS.br (fun _ => TS.call hl (fun z hz => TS.ret hz)) (fun hc => ?_)
    refine TS.brT ?_ (TS.call hl (fun z hz => TS.ret hz))
    rcases hy.2.2 with e | e
    · rw [e] at hc; cases hc
    · rw [e]; rfl
  obtain ⟨b, hb, rfl⟩ := this
  exact hb
end Go.Proofs.YtfbnofpfinenkaaDoorV
