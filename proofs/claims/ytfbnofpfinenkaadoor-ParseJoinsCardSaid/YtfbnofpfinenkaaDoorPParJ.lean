/- The plain law ParseJoins: programs that are joined. -/
import Derived.Test.YtfbnofpfinenkaaDoorPParK
namespace Go.Proofs.YtfbnofpfinenkaaDoorV
set_option linter.unusedVariables false
set_option linter.unusedSimpArgs false

mutual
theorem NE.symm : ∀ {d : Nat} {x y : Node}, NE d x y → NE d y x
  | _, _, _, .mk h hl hp => .mk (NEs.symm h) (by rw [h.len]; exact hl) hp
theorem NEs.symm : ∀ {d : Nat} {x y : List Node}, NEs d x y → NEs d y x
  | _, _, _, .nil => .nil
  | _, _, _, .cons h hs => .cons (NE.symm h) (NEs.symm hs)
end

theorem wds_join (s t s' : ByteArray) (hs' : bs s' = bs s ++ 10 :: bs t) (hsz : s.size + 1 + t.size ≤ 20000) (h1 : (wds s).2.1 = 0) (h2 : (wds t).2.1 = 0) : Joined s t (wds s).2.2 (wds s') := by
  have hls : (bs s).length = s.size := (bs_size s).symm
  have hlt : (bs t).length = t.size := (bs_size t).symm
  have hz : s'.size = s.size + 1 + t.size := by
    rw [bs_size, hs']
    simp [hls, hlt]
    omega
  have hsk : skipL (bs s) ≤ (bs s).length := skip_le false _
  rw [hls] at hsk
  unfold wds at h1 ⊢
  rw [if_neg (by omega)] at h1 ⊢
  rw [if_neg (by omega)]
  have := toks_join s t s' hs' (by omega) h2 (s.size + 1) (skipL (bs s)) [] [] (by omega) hsk (by simp) rfl h1 (s'.size + 1) (by omega)
  have e : skipL (bs s') = if skipL (bs s) = s.size then s.size + 1 + skipL (bs t) else skipL (bs s) := by
    rw [hs']
    split
    · rename_i hh
      have := skip_J2 (bs t) false (bs s) (by rw [hls]; exact hh)
      show skipM false _ = _
      rw [this, hls]
    · rename_i hh
      exact skip_J1 (bs t) false (bs s) (by rw [hls]; show skipL (bs s) < _; omega)
  rw [e]
  exact this

section
variable (N : Nat) (hN : 20030 < N) {L L' : List Tok} {S m off : Int} (hG : GL' L S) (hA : Ag L L' m off)
include hN hG hA
/-- As far as the tokens agree, round by round. -/
theorem prog_to (hm : m = (L.length : Int) - 1) (ho : off = 0) : ∀ (k : Nat) (v y : Int × List Node), 0 ≤ v.1 → v.1 < (L.length : Int) → (v.2.length : Int) ≤ v.1 → loopN (fun v => parse_parser_program_l2_T N L v.1 v.2) k v = some (.inr y) → ∀ l' : List Node, NEs v.1.toNat v.2 l' →
    y.1 < L.length ∧ v.1 ≤ y.1 ∧ (y.2.length : Int) ≤ y.1 ∧ ∃ (j : Nat) (l2 : List Node), j ≤ ((L.length : Int) - v.1).toNat ∧ NEs y.1.toNat y.2 l2 ∧ ∀ k3, loopN (fun v => parse_parser_program_l2_T N L' v.1 v.2) (k3 + j) (v.1, l') = loopN (fun v => parse_parser_program_l2_T N L' v.1 v.2) k3 (y.1, l2)
  | 0, v, y, _, _, _, h, _, _ => by cases h
  | k + 1, v, y, h0, h1, h2, h, l', hl' => by
    have hlen := hG.len
    obtain ⟨r, hr, hq⟩ := prog_step N hN hG hA h0 h1 h2
    simp only [loopN] at h
    rw [run_any hr] at h
    rcases r with x1 | z | z
    · obtain ⟨q1, q2, q3, X, q4, q5⟩ := hq
      simp only at h
      have hll := hl'.len
      obtain ⟨X', e1, e2⟩ := q5 (by omega) l' (by omega)
      have hn : NEs x1.1.toNat x1.2 (l' ++ [X']) := by
        rw [q4]
        exact NEs.app (NEs.mono hl' (by omega)) (.cons (NE.mono e1 (by omega)) .nil)
      obtain ⟨g1, g2, g3, j, l2, g4, g5, g6⟩ := prog_to hm ho k x1 y (by omega) q2 q3 h (l' ++ [X']) hn
      refine ⟨g1, by omega, g3, j + 1, l2, by omega, g5, fun k3 => ?_⟩
      rw [← g6 k3, show k3 + (j + 1) = (k3 + j) + 1 by omega]
      rw [ho, Int.add_zero, Int.add_zero] at e2
      conv => lhs; simp only [loopN]
      rw [run_any e2]
    · cases h
    · obtain ⟨rfl, _, _⟩ := hq
      simp only [Option.some.injEq, Sum.inr.injEq] at h
      subst h
      exact ⟨h1, Int.le_refl _, h2, 0, l', by omega, hl', fun k3 => rfl⟩
end

/-- A program that is read: its rounds; where they end. -/
theorem parse_rounds (N : Nat) (hN : 20030 < N) (s : ByteArray) (h1 : (wds s).2.1 = 0) (y : Int × List Node) (hy : parse_Parse N s = some (.inr y)) :
    ∃ z : Int × List Node, loopN (fun v => parse_parser_program_l2_T N (wds s).2.2 v.1 v.2) N (0, []) = some (.inr z) ∧ y.2 = z.2 ∧ z.1 = ((wds s).2.2.length : Int) - 1 := by
  have hf : Fin s (wds s).2.2 ∧ s.size ≤ 20000 := by
    rcases wds_ok s with ⟨_, h⟩ | ⟨h, _⟩
    · exact h
    · exact absurd h1 h
  have hG := gl_of_fin hf.1 hf.2
  have hA := ag_of (L := (wds s).2.2) rfl hG.len
  have hpos := hG.pos
  have hlen := hG.len
  obtain ⟨t, ht, htt⟩ := tokR N hG hA (p := 0) (Int.le_refl _) (by omega)
  obtain ⟨r, hr, hq⟩ := prog_loop N hN hG hA [] (by simp) N (0, []) (Int.le_refl _) (by dsimp only; omega) (by dsimp only; simp) (by dsimp only; omega)
  have hpar := parse_is N hN s h1 (program_is N ht hr)
  rw [hy] at hpar
  cases r with
  | inl z => cases hpar
  | inr z =>
    obtain ⟨z1, z2, z3, z4⟩ := hq
    dsimp only at z1
    obtain ⟨u, hu, _⟩ := tokR N hG hA (p := z.1) (by omega) z2
    simp only at hpar
    rw [hu, Option.bind_some] at hpar
    by_cases hc : (u.1 != 0) = true
    · rw [if_pos hc] at hpar
      cases hff : parse_tokens_fail N z.1 (wds s).2.2 with
      | none => rw [hff] at hpar; cases hpar
      | some f => rw [hff] at hpar; cases hpar
    · rw [if_neg hc] at hpar
      have e : y = (t.2.2, z.2) := by simpa using hpar
      refine ⟨z, hr, by rw [e], ?_⟩
      have hc' : inRange z.1 (wds s).2.2.length = true := by rw [inRange_iff]; omega
      have hu2 : parse_tokens_tok N z.1 (wds s).2.2 = some (((wds s).2.2.getD z.1.toNat dt).1, ((wds s).2.2.getD z.1.toNat dt).2.1, ((wds s).2.2.getD z.1.toNat dt).2.2) := by
        simp only [parse_tokens_tok, parse_tokens_tok_T, hc']
        rfl
      rw [hu] at hu2
      have e2 : u.1 = ((wds s).2.2.getD z.1.toNat dt).1 := by rw [Option.some.inj hu2]
      have e3 : u.1 = 0 := by simpa using hc
      have := (hf.1.each z.1.toNat (by omega)).2.1 (by rw [← e2]; exact e3)
      omega
end Go.Proofs.YtfbnofpfinenkaaDoorV
