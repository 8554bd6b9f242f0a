/- The plain law ParseJoins. -/
import Derived.Test.YtfbnofpfinenkaaDoorPParJ
namespace Go.Proofs.YtfbnofpfinenkaaDoorV
set_option linter.unusedVariables false
set_option linter.unusedSimpArgs false

theorem tok_eq (N : Nat) {L : List Tok} {p : Int} (h0 : 0 ≤ p) (h1 : p < L.length) : parse_tokens_tok N p L = some ((L.getD p.toNat dt).1, (L.getD p.toNat dt).2.1, (L.getD p.toNat dt).2.2) := by
  have hc : inRange p L.length = true := by rw [inRange_iff]; omega
  simp only [parse_tokens_tok, parse_tokens_tok_T, hc]
  rfl

theorem ks_at {L : List Tok} {l : List (Int × List UInt8)} (h : L.map ks = l) {i : Nat} (hi : i < L.length) : l[i]? = some (ks (L.getD i dt)) := by
  rw [← h, List.getElem?_map, List.getElem?_eq_getElem hi, List.getD_eq_getElem?_getD, List.getElem?_eq_getElem hi]
  rfl

theorem parse_join (N : Nat) (hN : 20030 < N) (s t s' : ByteArray) (hs' : bs s' = bs s ++ 10 :: bs t) (hsz : s.size + 1 + t.size ≤ 20000) (h1 : (wds s).2.1 = 0) (h2 : (wds t).2.1 = 0) (a b : Int × List Node) (ha : parse_Parse N s = some (.inr a)) (hb : parse_Parse N t = some (.inr b)) :
    (∃ y : Int × Int, parse_Parse N s' = some (.inl y) ∧ y.2 = 150) ∨ ∃ c : Int × List Node, parse_Parse N s' = some (.inr c) ∧ NEs 4001 c.2 (a.2 ++ b.2) ∧ c.2.length ≤ 5000 := by
  have fin_of : ∀ x : ByteArray, (wds x).2.1 = 0 → Fin x (wds x).2.2 ∧ x.size ≤ 20000 := fun x hx => by
    rcases wds_ok x with ⟨_, h⟩ | ⟨h, _⟩
    · exact h
    · exact absurd hx h
  rcases wds_join s t s' hs' hsz h1 h2 with h | ⟨h3, l, e1, e2⟩
  · left
    refine ⟨((wds s').1, (wds s').2.1), ?_, h⟩
    have hbb : (((wds s').2.1 : Int) != 0) = true := by rw [h]; rfl
    simp only [parse_Parse, parse_Parse_T, parse_read, parse_read_T, run_call, run_br, words_lex N s' hN, Option.bind_some, hbb, if_true, run_ret, run_inl]
  · right
    have f1 := fin_of s h1
    have f2 := fin_of t h2
    have f3 := fin_of s' h3
    have g1 := gl_of_fin f1.1 f1.2
    have g2 := gl_of_fin f2.1 f2.2
    have g3 := gl_of_fin f3.1 f3.2
    have n1 : (wds s).2.2.length = l.length + 1 := by simpa using congrArg List.length e1
    have n3 : (wds s').2.2.length = l.length + (wds t).2.2.length := by simpa using congrArg List.length e2
    have p2 := g2.pos
    have q1 := g1.len
    have q2 := g2.len
    have q3 := g3.len
    have A1 : Ag (wds s).2.2 (wds s').2.2 (((wds s).2.2.length : Int) - 1) 0 := by
      refine ⟨Int.le_refl _, by omega, q3, fun i i0 i1 => ?_⟩
      rw [Int.add_zero]
      have u1 := ks_at e1 (i := i.toNat) (by omega)
      have u2 := ks_at e2 (i := i.toNat) (by omega)
      rw [List.getElem?_append_left (by omega)] at u1 u2
      rw [u1] at u2
      have u3 := Option.some.inj u2
      simp only [ks, Prod.mk.injEq] at u3
      exact ⟨u3.1.symm, (bs_ext u3.2).symm⟩
    have A2 : Ag (wds t).2.2 (wds s').2.2 ((wds t).2.2.length : Int) (((wds s).2.2.length : Int) - 1) := by
      refine ⟨by omega, by omega, q3, fun i i0 i1 => ?_⟩
      have u2 := ks_at e2 (i := (i + (((wds s).2.2.length : Int) - 1)).toNat) (by omega)
      have e : (i + (((wds s).2.2.length : Int) - 1)).toNat = l.length + i.toNat := by omega
      rw [e] at u2 ⊢
      rw [List.getElem?_append_right (by omega), Nat.add_sub_cancel_left, ks_at rfl (by omega)] at u2
      have u3 := Option.some.inj u2
      simp only [ks, Prod.mk.injEq] at u3
      exact ⟨u3.1.symm, (bs_ext u3.2).symm⟩
    obtain ⟨z1, r1, r2, r3⟩ := parse_rounds N hN s h1 a ha
    obtain ⟨z2, r4, r5, r6⟩ := parse_rounds N hN t h2 b hb
    obtain ⟨k1, k2, k3, j, l2, k4, k5, k6⟩ := prog_to N hN g1 A1 rfl rfl N (0, []) z1 (Int.le_refl _) (by dsimp only; omega) (by dsimp only; simp) r1 [] .nil
    have hl2 := k5.len
    obtain ⟨r, m1, m2⟩ := prog_loop N hN g2 A2 l2 (by omega) N (0, []) (Int.le_refl _) (by dsimp only; omega) (by dsimp only; simp) (by dsimp only; omega)
    rw [r4] at m1
    have : r = .inr z2 := (Option.some.inj m1).symm
    subst this
    obtain ⟨m3, m4, m5, m6⟩ := m2
    obtain ⟨l3, m7, m8⟩ := m6 (by omega) (N - j) [] (by dsimp only at k4 ⊢; omega) .nil
    have hl3 := m8.len
    rw [List.append_nil] at m7
    have hrun : loopN (fun v => parse_parser_program_l2_T N (wds s').2.2 v.1 v.2) N (0, []) = some (.inr (z2.1 + (((wds s).2.2.length : Int) - 1), l2 ++ l3)) := by
      have := k6 (N - j)
      rw [Nat.sub_add_cancel (by dsimp only at k4; omega)] at this
      rw [this, ← m7, r3]
      congr 2
      simp
    have hend : z2.1 + (((wds s).2.2.length : Int) - 1) = ((wds s').2.2.length : Int) - 1 := by omega
    have hpar := parse_is N hN s' h3 (program_is N (tok_eq N (p := 0) (Int.le_refl _) (by omega)) hrun)
    simp only at hpar
    rw [hend, tok_eq N (by omega) (by omega), Option.bind_some] at hpar
    have hk : ((wds s').2.2.getD (((wds s').2.2.length : Int) - 1).toNat dt).1 = 0 := (f3.1.each _ (by omega)).2.2 (by omega)
    rw [if_neg (by rw [hk]; decide)] at hpar
    refine ⟨_, hpar, ?_, by show (l2 ++ l3).length ≤ 5000; rw [List.length_append]; omega⟩
    show NEs 4001 (l2 ++ l3) _
    rw [r2, r5]
    exact NEs.app (NEs.mono k5.symm (by omega)) (NEs.mono m8.symm (by omega))

theorem parse_wds (N : Nat) (hN : 20030 < N) (s : ByteArray) (a : Int × List Node) (ha : parse_Parse N s = some (.inr a)) : (wds s).2.1 = 0 := by
  cases hb : (((wds s).2.1 : Int) != 0) with
  | false => simpa using hb
  | true =>
    exfalso
    simp only [parse_Parse, parse_Parse_T, parse_read, parse_read_T, run_call, run_br, words_lex N s hN, Option.bind_some, hb, if_true, run_ret, run_inl] at ha
    cases ha

theorem parseJoins_law (s : ByteArray) (h : WF .str s) (hss : s.size ≤ 140737488355328) (t : ByteArray) (ht : WF .str t) (hts : t.size ≤ 140737488355328) : bautalaw10_ParseJoins 100002 s t = some true := by
  have hN : 20030 < 100002 := by decide
  have hl : OS (bautalaw10_lives 100002) (fun b => b = true) := ⟨_, plives_is, rfl⟩
  have lv : TS (.call (bautalaw10_lives 100002) fun y => .ret y) (fun b : Bool => b = true) := TS.call hl (fun z hz => TS.ret hz)
  have : OS (bautalaw10_ParseJoins 100002 s t) (fun b => b = true) := by
    refine TS.br (fun _ => lv) (fun hc => ?_)
    rw [i64_in (by omega), i64_in (by omega), ltI_eq] at hc
    have hsz : s.size + 1 + t.size ≤ 20000 := by simp at hc; omega
    have e1 : (⟨#[10]⟩ : ByteArray).size = 1 := rfl
    have c1 : leI ((s.size : Int) + ((⟨#[10]⟩ : ByteArray).size : Int)) 9223372036854775807 = true := by
      rw [leI_iff, e1]; omega
    have c2 : leI (((s ++ (⟨#[10]⟩ : ByteArray)).size : Int) + (t.size : Int)) 9223372036854775807 = true := by
      rw [leI_iff, ByteArray.size_append, e1]; omega
    have bad : ∀ y : Int × Int, (y.2 = 100 ∨ y.2 = 150) → (y.2 != 0) = true := fun y hy => by rcases hy with e | e <;> rw [e] <;> rfl
    have hbs : bs ((s ++ (⟨#[10]⟩ : ByteArray)) ++ t) = bs s ++ 10 :: bs t := by
      rw [bs_append, bs_append, List.append_assoc]; rfl
    rcases parse_ok 100002 hN s with ⟨a, ha, hpa⟩ | ⟨a, ha, _⟩
    · refine TS.callS (PA := fun x => x = a) (PB := fun _ => False) (.inl ⟨a, ha, rfl⟩) (fun x hx => ?_) (fun _ h => h.elim)
      subst hx
      rcases parse_ok 100002 hN t with ⟨b, hb, hpb⟩ | ⟨b, hb, _⟩
      · refine TS.callS (PA := fun x => x = b) (PB := fun _ => False) (.inl ⟨b, hb, rfl⟩) (fun y hy => ?_) (fun _ h => h.elim)
        exact TS.brT c1 (TS.brT c2 (TS.callS (parse_ok 100002 hN _) (fun _ _ => TS.brT (bad x hpa.2.2) lv) (fun _ _ => TS.brT (bad x hpa.2.2) lv)))
      · refine TS.callS (PA := fun _ => False) (PB := fun x => x = b) (.inr ⟨b, hb, rfl⟩) (fun _ h => h.elim) (fun y hy => ?_)
        exact TS.brT c1 (TS.brT c2 (TS.callS (parse_ok 100002 hN _) (fun _ _ => TS.brT (bad x hpa.2.2) lv) (fun _ _ => TS.brT (bad x hpa.2.2) lv)))
    · refine TS.callS (PA := fun _ => False) (PB := fun x => x = a) (.inr ⟨a, ha, rfl⟩) (fun _ h => h.elim) (fun x hx => ?_)
      subst hx
      rcases parse_ok 100002 hN t with ⟨b, hb, hpb⟩ | ⟨b, hb, _⟩
      · refine TS.callS (PA := fun x => x = b) (PB := fun _ => False) (.inl ⟨b, hb, rfl⟩) (fun y hy => ?_) (fun _ h => h.elim)
        subst hy
        exact TS.brT c1 (TS.brT c2 (TS.callS (parse_ok 100002 hN _) (fun _ _ => TS.brT (bad y hpb.2.2) lv) (fun _ _ => TS.brT (bad y hpb.2.2) lv)))
      · refine TS.callS (PA := fun _ => False) (PB := fun x => x = b) (.inr ⟨b, hb, rfl⟩) (fun _ h => h.elim) (fun y hy => ?_)
        subst hy
        refine TS.brT c1 (TS.brT c2 ?_)
        rcases parse_join 100002 hN s t _ hbs hsz (parse_wds _ hN s x ha) (parse_wds _ hN t y hb) x y ha hb with ⟨z, hz, hz2⟩ | ⟨c, hc2, hc3, hc4⟩
        · refine TS.callS (PA := fun x => x = z) (PB := fun _ => False) (.inl ⟨z, hz, rfl⟩) (fun w hw => ?_) (fun _ h => h.elim)
          subst hw
          have hj : OS (bautalaw10_ParseJoins_j8g 100002 w.2 x.2 y.2 0 ByteArray.empty 0 0 [] []) (fun b => b = true) := by
            rw [hz2]
            exact TS.brT rfl (TS.brT rfl (TS.brT rfl lv))
          exact TS.call hj (fun z hz => TS.ret hz)
        · refine TS.callS (PA := fun _ => False) (PB := fun x => x = c) (.inr ⟨c, hc2, rfl⟩) (fun _ h => h.elim) (fun w hw => ?_)
          subst hw
          have hlen := hc3.len
          rw [List.length_append] at hlen
          have hsame : bautaref10_Same 100002 13 ByteArray.empty 0 w.1 w.2 [] 13 ByteArray.empty 0 0 (x.2 ++ y.2) [] false = some true :=
            same_ok 100002 hN 100002 4002 (x := .mk 13 ByteArray.empty 0 w.1 w.2 []) (y := .mk 13 ByteArray.empty 0 0 (x.2 ++ y.2) []) (.mk hc3 hc4 (by simp)) (by decide)
          have hj : OS (bautalaw10_ParseJoins_j8h 100002 0 x.2 y.2 13 ByteArray.empty 0 w.1 w.2 []) (fun b => b = true) := by
            refine TS.br (fun h => by cases h) (fun _ => ?_)
            refine TS.brT (by rw [ltI_iff]; omega) (TS.brT (by rw [ltI_iff]; omega) ?_)
            exact TS.call (P := fun x => x = true) ⟨_, hsame, rfl⟩ (fun x hx => TS.brT hx lv)
          exact TS.call hj (fun z hz => TS.ret hz)
  obtain ⟨b, hb, rfl⟩ := this
  exact hb
end Go.Proofs.YtfbnofpfinenkaaDoorV
