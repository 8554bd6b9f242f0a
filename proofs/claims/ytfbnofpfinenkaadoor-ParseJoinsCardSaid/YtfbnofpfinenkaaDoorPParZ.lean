/- The parser over tokens that agree so far: whole programs (printed by wip/pure/parz_gen.py). -/
import Derived.Test.YtfbnofpfinenkaaDoorPParY
namespace Go.Proofs.YtfbnofpfinenkaaDoorV
set_option linter.unusedVariables false
set_option linter.unusedSimpArgs false

abbrev HdT := (Int × Int × ByteArray × (List ByteArray) × (List Node)) ⊕ (Int × Int × ByteArray × (List Node)) ⊕ Int
/-- A statement behind its head. -/
noncomputable def stTail (N : Nat) (M : List Tok) (a : Int) (R : HdT) : Tree ((Int × Int × Int) ⊕ StT) := .alt R (fun y6 => .ret (.inr (y6.2.1, y6.2.2.1, a, y6.2.2.2.2, y6.2.2.2.1, y6.1))) (fun y7 => .alt y7 (fun y8 => .ret (.inr (y8.2.1, y8.2.2.1, a, y8.2.2.2, [], y8.1))) (fun y9 => .call (parse_parser_inner N 0 y9 M) fun y10 => .alt y10 (fun y11 => .ret (.inl (y11.1, y11.2.1, y11.2.2))) (fun y12 => .ret (.inr (y12.1, y12.2.1, y12.2.2.1, y12.2.2.2.1, [], y12.2.2.2.2)))))

section
variable (N : Nat) (hN : 20030 < N) {L L' : List Tok} {S m off : Int} (hG : GL' L S) (hA : Ag L L' m off)
include hN hG hA

theorem stmtR {p : Int} (hp0 : 0 ≤ p) (hp : p < L.length) : OS2 (parse_parser_stmt N p L) (fun y => 0 ≤ y.1 ∧ y.1 ≤ S ∧ (y.2.1 = 100 ∨ y.2.1 = 150)) (PS L L' m off (parse_parser_stmt N) p) := by
  refine OS2.of ?_
  refine TS.call (tokR N hG hA hp0 hp) (fun t ht => ?_)
  refine TS.call (goesR N hN hG hA (by simp) hp0 hp) (fun y hy => ?_)
  have go : ∀ (b : Bool) (q : Int) (R : HdT), p ≤ q → q < L.length → PJ L L' m off (parse_parser_stmt_j4 N b) q R → (q < m → ∀ R', parse_parser_stmt_j4 N b (q + off) L' = some (.inr R') → ∃ a', parse_parser_stmt N (p + off) L' = (stTail N L' a' R').run some) →
      TS (stTail N L t.2.2 R) (fun r : (Int × Int × Int) ⊕ StT => match r with | .inl y => 0 ≤ y.1 ∧ y.1 ≤ S ∧ (y.2.1 = 100 ∨ y.2.1 = 150) | .inr y => PS L L' m off (parse_parser_stmt N) p y) := by
    intro b q R hq hql hR hrun
    rcases R with x | x | x
    · obtain ⟨h1, h2, h3, h4, h5⟩ := hR
      refine TS.ret ⟨by show p < x.1; omega, h2, fun hm => ?_⟩
      have hm' : x.1 ≤ m := hm
      obtain ⟨l', f1, f2⟩ := h5 hm'
      obtain ⟨a', f3⟩ := hrun (by omega) _ f1
      refine ⟨(x.2.1, x.2.2.1, a', l', x.2.2.2.1, x.1 + off), f3, ?_, rfl⟩
      have ee : (x.1 - p).toNat = (x.1 - p - 1).toNat + 1 := by omega
      show NE (x.1 - p).toNat _ _
      rw [ee]
      exact .mk (NEs.mono f2 (by omega)) h4 h3
    · obtain ⟨h1, h2, h3, h5⟩ := hR
      refine TS.ret ⟨by show p < x.1; omega, h2, fun hm => ?_⟩
      have hm' : x.1 ≤ m := hm
      obtain ⟨l', f1, f2⟩ := h5 hm'
      obtain ⟨a', f3⟩ := hrun (by omega) _ f1
      refine ⟨(x.2.1, x.2.2.1, a', l', [], x.1 + off), f3, ?_, rfl⟩
      have ee : (x.1 - p).toNat = (x.1 - p - 1).toNat + 1 := by omega
      show NE (x.1 - p).toNat _ _
      rw [ee]
      exact .mk (NEs.mono f2 (by omega)) h3 (by simp)
    · obtain ⟨h1, h2, h5⟩ := hR
      refine TS.callS (innerR' N hN hG hA (by omega) (by omega) (by omega) h2) (fun a ha => TS.ret ha) (fun c hc => ?_)
      obtain ⟨c1, c2, c3⟩ := hc
      refine TS.ret ⟨by show p < c.2.2.2.2; omega, c2, fun hm => ?_⟩
      have hm' : c.2.2.2.2 ≤ m := hm
      have f1 := h5 (by omega)
      obtain ⟨a', f3⟩ := hrun (by omega) _ f1
      obtain ⟨y', f4, f5, f6⟩ := c3 hm'
      refine ⟨(y'.1, y'.2.1, y'.2.2.1, y'.2.2.2.1, [], y'.2.2.2.2), ?_, NE.mono f5 (by show (c.2.2.2.2 - x).toNat ≤ (c.2.2.2.2 - p).toNat; omega), f6⟩
      rw [f3]
      simp only [stTail, run_inr, run_call, f4, Option.bind_some, run_ret]
  refine TS.br (fun hc => ?_) (fun hc => ?_)
  · refine TS.callS (sj4R N hN hG hA (by omega) hy.2.1 (fun h => by have := hy.2.2.1 h; omega)) (fun a ha => TS.ret ha) (fun c hc2 => ?_)
    refine (go y.1 y.2 c hy.1 hy.2.1 hc2 (fun hm R' hR' => ?_)).mono (fun r h => by cases r <;> exact h)
    obtain ⟨a, ha⟩ := ht.2.2.2.2 (by omega)
    have f1 := hy.2.2.2 (by omega)
    refine ⟨a, ?_⟩
    show (parse_parser_stmt_T N (p + off) L').run some = _
    simp only [parse_parser_stmt_T, run_call, ha, f1, Option.bind_some, run_br, hc, if_true]
    rw [hc] at hR'
    rw [hR']
    rfl
  · refine TS.call (goesR N hN hG hA (by simp) (by omega) hy.2.1) (fun z hz => ?_)
    refine TS.callS (sj4R N hN hG hA (by omega) hz.2.1 (fun h => by have := hz.2.2.1 h; omega)) (fun a ha => TS.ret ha) (fun c hc2 => ?_)
    refine (go z.1 z.2 c (by omega) hz.2.1 hc2 (fun hm R' hR' => ?_)).mono (fun r h => by cases r <;> exact h)
    obtain ⟨a, ha⟩ := ht.2.2.2.2 (by omega)
    have f1 := hy.2.2.2 (by omega)
    have f2 := hz.2.2.2 (by omega)
    refine ⟨a, ?_⟩
    show (parse_parser_stmt_T N (p + off) L').run some = _
    simp only [parse_parser_stmt_T, run_call, ha, f1, f2, Option.bind_some, run_br, hc, Bool.false_eq_true, if_false]
    rw [hR']
    rfl

/-- One round of a program's reading. -/
theorem prog_step {v : Int × List Node} (h0 : 0 ≤ v.1) (h1 : v.1 < (L.length : Int)) (h2 : (v.2.length : Int) ≤ v.1) : TS (parse_parser_program_l2_T N L v.1 v.2) (fun r => match r with
    | .inl x1 => v.1 < x1.1 ∧ x1.1 < (L.length : Int) ∧ (x1.2.length : Int) ≤ x1.1 ∧ (∃ X, x1.2 = v.2 ++ [X] ∧ (x1.1 ≤ m → ∀ l' : List Node, l'.length ≤ 100000 → ∃ X', NE (x1.1 - v.1).toNat X X' ∧ (parse_parser_program_l2_T N L' (v.1 + off) l').run some = some (.inl (x1.1 + off, l' ++ [X']))))
    | .inr (.inl y) => 0 ≤ y.1 ∧ y.1 ≤ S ∧ (y.2.1 = 100 ∨ y.2.1 = 150)
    | .inr (.inr y) => y = v ∧ (parse_tokens_tok N v.1 L).any (fun t => t.1 == 0) = true ∧ (v.1 < m → ∀ l' : List Node, (parse_parser_program_l2_T N L' (v.1 + off) l').run some = some (.inr (.inr (v.1 + off, l'))))) := by
  have hlen := hG.len
  obtain ⟨t, ht0, ht⟩ := tokR N hG hA h0 h1
  refine TS.call (P := fun x => x = t) ⟨t, ht0, rfl⟩ (fun x hx => ?_)
  subst hx
  refine TS.br (fun hc => ?_) (fun hc => TS.ret ⟨rfl, by rw [ht0]; simpa using hc, fun hm l' => ?_⟩)
  · refine TS.callS (stmtR N hN hG hA h0 h1) (fun a ha => TS.ret ha) (fun b hb => ?_)
    obtain ⟨b1, b2, b3⟩ := hb
    refine TS.brT (by rw [ltI_iff]; omega) (TS.ret ⟨b1, b2, ?_, _, rfl, fun hm l' hl' => ?_⟩)
    · simp only [List.length_append, List.length_singleton]
      omega
    · have hm' : b.2.2.2.2.2 ≤ m := hm
      obtain ⟨y', f1, f2, f3⟩ := b3 hm'
      obtain ⟨a, ha⟩ := ht.2.2.2.2 (by omega)
      have hgd : ltI (((l'.length : Int) + 1) * 88) 140737488355328 = true := by rw [ltI_iff]; omega
      refine ⟨.mk y'.1 y'.2.1 0 y'.2.2.1 y'.2.2.2.1 y'.2.2.2.2.1, f2, ?_⟩
      simp only [parse_parser_program_l2_T, run_call, ha, Option.bind_some, run_br, hc, if_true, f1, run_inr, run_ret, hgd, f3]
  · obtain ⟨a, ha⟩ := ht.2.2.2.2 hm
    simp only [parse_parser_program_l2_T, run_call, ha, Option.bind_some, run_br, hc, Bool.false_eq_true, if_false, run_ret]

/-- A program's reading, whole: over the other tokens, too. -/
theorem prog_loop (base : List Node) (hbase : base.length ≤ 5000) : ∀ (k : Nat) (v : Int × List Node), 0 ≤ v.1 → v.1 < (L.length : Int) → (v.2.length : Int) ≤ v.1 → ((L.length : Int) - v.1).toNat < k →
    OS (loopN (fun v => parse_parser_program_l2_T N L v.1 v.2) k v) (fun r => match r with
      | .inl y => 0 ≤ y.1 ∧ y.1 ≤ S ∧ (y.2.1 = 100 ∨ y.2.1 = 150)
      | .inr y => v.1 ≤ y.1 ∧ y.1 < L.length ∧ (y.2.length : Int) ≤ y.1 ∧ (y.1 < m → ∀ (k' : Nat) (l' : List Node), ((L.length : Int) - v.1).toNat < k' → NEs v.1.toNat v.2 l' → ∃ l2, loopN (fun v => parse_parser_program_l2_T N L' v.1 v.2) k' (v.1 + off, base ++ l') = some (.inr (y.1 + off, base ++ l2)) ∧ NEs y.1.toNat y.2 l2))
  | 0, v, _, _, _, hk => by omega
  | k + 1, v, h0, h1, h2, hk => by
    have hlen := hG.len
    obtain ⟨r, hr, hq⟩ := prog_step N hN hG hA h0 h1 h2
    rcases r with x1 | y | y
    · obtain ⟨q1, q2, q3, X, q4, q5⟩ := hq
      obtain ⟨z, hz, hzq⟩ := prog_loop base hbase k x1 (by omega) q2 q3 (by omega)
      refine ⟨z, ?_, ?_⟩
      · simp only [loopN]
        rw [run_any hr]
        exact hz
      · rcases z with z | z
        · exact hzq
        · obtain ⟨z1, z2, z3, z4⟩ := hzq
          refine ⟨by omega, z2, z3, fun hm k' l' hk' hl' => ?_⟩
          obtain ⟨k'', rfl⟩ : ∃ j, k' = j + 1 := ⟨k' - 1, by omega⟩
          have hll := hl'.len
          obtain ⟨X', e1, e2⟩ := q5 (by omega) (base ++ l') (by simp; omega)
          have hn : NEs x1.1.toNat x1.2 (l' ++ [X']) := by
            rw [q4]
            exact NEs.app (NEs.mono hl' (by omega)) (.cons (NE.mono e1 (by omega)) .nil)
          obtain ⟨l2, e3, e4⟩ := z4 hm k'' (l' ++ [X']) (by omega) hn
          refine ⟨l2, ?_, e4⟩
          simp only [loopN]
          rw [run_any e2]
          simp only
          rw [List.append_assoc]
          exact e3
    · exact ⟨.inl y, by simp only [loopN]; rw [run_any hr], hq⟩
    · obtain ⟨rfl, q2, q3⟩ := hq
      refine ⟨.inr y, by simp only [loopN]; rw [run_any hr], Int.le_refl _, h1, h2, fun hm k' l' hk' hl' => ?_⟩
      obtain ⟨k'', rfl⟩ : ∃ j, k' = j + 1 := ⟨k' - 1, by omega⟩
      refine ⟨l', ?_, hl'⟩
      simp only [loopN]
      rw [run_any (q3 hm (base ++ l'))]
end
end Go.Proofs.YtfbnofpfinenkaaDoorV
