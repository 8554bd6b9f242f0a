/- The plain law ParseBlanks. -/
import Derived.Test.YtfbnofpfinenkaaDoorPParZ
import Derived.Test.YtfbnofpfinenkaaDoorPParM
namespace Go.Proofs.YtfbnofpfinenkaaDoorV
set_option linter.unusedVariables false
set_option linter.unusedSimpArgs false

theorem wds_blanks (s s' : ByteArray) (at' : Nat) (hat : at' ≤ s.size) (hs' : bs s' = (bs s).take at' ++ (ins ++ (bs s).drop at')) (hsz : s.size ≤ 19000) (he : (wds s).2.1 = 0) (hex : ∃ t ∈ (wds s).2.2, t.2.2 = (at' : Int)) :
    (wds s').2.1 = 0 ∧ (wds s').2.2.map ks = (wds s).2.2.map ks := by
  have hls : (bs s).length = s.size := (bs_size s).symm
  have hul : ((bs s).take at').length = at' := by rw [List.length_take]; omega
  have hsz' : s'.size = s.size + 9 := by
    rw [bs_size, hs']
    simp [ins, hls]
    omega
  unfold wds at he hex ⊢
  rw [if_neg (by omega)] at he hex ⊢
  rw [if_neg (by omega)]
  have hsk : skipL (bs s) ≤ (bs s).length := skip_le false _
  rw [hls] at hsk
  obtain ⟨tail, e1, e2⟩ := toks_tail s (s.size + 1) (skipL (bs s)) [] (by omega) hsk he
  obtain ⟨t, ht, hta⟩ := hex
  rw [e1, List.nil_append] at ht
  have hb := e2 t ht
  have hu : bs s = (bs s).take at' ++ (bs s).drop at' := (List.take_append_drop _ _).symm
  rcases Nat.lt_or_ge (skipL (bs s)) at' with hlt | hge
  · have hs1 : skipL (bs s') = skipL (bs s) := by
      rw [hs']
      have := skip_S1 ((bs s).drop at') false ((bs s).take at') (by rw [hul, ← hu]; exact hlt)
      rw [← hu] at this
      exact this
    rw [hs1]
    exact toks_ahead s s' at' hat hs' (s.size + 1) _ [] [] (by omega) hlt rfl he ⟨tail, e1, t, ht, hta⟩ _ (by omega)
  · have heq : skipL (bs s) = at' := by omega
    have hs2 : skipL (bs s') = at' + 9 := by
      rw [hs']
      have := skip_S2 ((bs s).drop at') false ((bs s).take at') (by rw [hul, ← hu]; exact heq)
      rw [hul] at this
      exact this
    rw [hs2]
    rw [heq] at he ⊢
    refine toks_behind s s' 9 hsz' (s.size + 1) at' [] [] (by omega) hat ?_ rfl he _ (by omega)
    rw [hs', show at' + 9 = ((bs s).take at' ++ ins).length by rw [List.length_append, hul]; rfl, ← List.append_assoc, List.drop_left]

theorem ag_of {L L' : List Tok} (h : L'.map ks = L.map ks) (hl : L'.length ≤ 4001) : Ag L L' L.length 0 := by
  have hlen : L'.length = L.length := by simpa using congrArg List.length h
  refine ⟨Int.le_refl _, by omega, hl, fun i h0 h1 => ?_⟩
  have hi : i.toNat < L.length := by omega
  have e := congrArg (fun l => l[i.toNat]?) h
  simp only [List.getElem?_map] at e
  rw [Int.add_zero]
  have e1 : L[i.toNat]? = some (L.getD i.toNat dt) := by rw [List.getD_eq_getElem?_getD, List.getElem?_eq_getElem hi]; rfl
  have e2 : L'[i.toNat]? = some (L'.getD i.toNat dt) := by rw [List.getD_eq_getElem?_getD, List.getElem?_eq_getElem (by omega : i.toNat < L'.length)]; rfl
  rw [e1, e2] at e
  simp only [Option.map_some, Option.some.injEq, ks, Prod.mk.injEq] at e
  exact ⟨e.1, bs_ext e.2⟩

/-- What a program's reading comes to, told by its rounds. -/
theorem program_is (N : Nat) {L : List Tok} {t : Int × ByteArray × Int} {r : (Int × Int × Int) ⊕ (Int × List Node)} {p : Int} (ht : parse_tokens_tok N p L = some t) (hr : loopN (fun v => parse_parser_program_l2_T N L v.1 v.2) N (p, []) = some r) :
    parse_parser_program N p L = some (match r with | .inl y => .inl y | .inr y => .inr (t.2.2, y.2, y.1)) := by
  have nodeq : parse_node N = some () := rfl
  have hr' : parse_parser_program_l2 N L (p, []) = some r := hr
  simp only [parse_parser_program, parse_parser_program_T, run_call, ht, nodeq, hr', Option.bind_some]
  cases r <;> rfl

theorem parse_is (N : Nat) (hN : 20030 < N) (s : ByteArray) (h0 : (wds s).2.1 = 0) {R : (Int × Int × Int) ⊕ (Int × List Node × Int)} (hp : parse_parser_program N 0 (wds s).2.2 = some R) :
    parse_Parse N s = (match R with
      | .inl y => some (.inl (y.1, y.2.1))
      | .inr y => (parse_tokens_tok N y.2.2 (wds s).2.2).bind fun t => if (t.1 != 0) = true then (parse_tokens_fail N y.2.2 (wds s).2.2).bind fun f => some (.inl (f, 100)) else some (.inr (y.1, y.2.1))) := by
  have hb : (((wds s).2.1 : Int) != 0) = false := by rw [h0]; rfl
  simp only [parse_Parse, parse_Parse_T, parse_read, parse_read_T, parse_Parse_1, parse_Parse_1_T, run_call, run_br, words_lex N s hN, Option.bind_some, hb, Bool.false_eq_true, if_false, hp]
  cases R with
  | inl y => simp only [run_inl, run_ret, run_call, Option.bind_some]
  | inr y =>
    simp only [run_inr, run_ret, run_call, Option.bind_some]
    cases parse_tokens_tok N y.2.2 (wds s).2.2 with
    | none => rfl
    | some t =>
      simp only [Option.bind_some, run_br]
      by_cases hc : (t.1 != 0) = true
      · rw [if_pos hc, if_pos hc]
        cases parse_tokens_fail N y.2.2 (wds s).2.2 <;> rfl
      · rw [if_neg hc, if_neg hc]; rfl

theorem parse_blank (N : Nat) (hN : 20030 < N) (s s' : ByteArray) (h1 : (wds s).2.1 = 0) (h2 : (wds s').2.1 = 0) (hks : (wds s').2.2.map ks = (wds s).2.2.map ks) (y : Int × List Node) (hy : parse_Parse N s = some (.inr y)) :
    ∃ y' : Int × List Node, parse_Parse N s' = some (.inr y') ∧ NEs 4001 y.2 y'.2 ∧ y.2.length ≤ 4001 := by
  have hf : Fin s (wds s).2.2 ∧ s.size ≤ 20000 := by
    rcases wds_ok s with ⟨_, h⟩ | ⟨h, _⟩
    · exact h
    · exact absurd h1 h
  have hf' : Fin s' (wds s').2.2 ∧ s'.size ≤ 20000 := by
    rcases wds_ok s' with ⟨_, h⟩ | ⟨h, _⟩
    · exact h
    · exact absurd h2 h
  have hG := gl_of_fin hf.1 hf.2
  have hG' := gl_of_fin hf'.1 hf'.2
  have hA := ag_of hks hG'.len
  have hpos := hG.pos
  have hlen := hG.len
  obtain ⟨t, ht, htt⟩ := tokR N hG hA (p := 0) (Int.le_refl _) (by omega)
  obtain ⟨r, hr, hq⟩ := prog_loop N hN hG hA [] (by simp) N (0, []) (Int.le_refl _) (by dsimp only; omega) (by dsimp only; simp) (by dsimp only; omega)
  have hprog := program_is N ht hr
  have hpar := parse_is N hN s h1 hprog
  rw [hy] at hpar
  cases r with
  | inl z => cases hpar
  | inr z =>
    obtain ⟨z1, z2, z3, z4⟩ := hq
    dsimp only at z1 z4
    obtain ⟨u, hu, huu⟩ := tokR N hG hA (p := z.1) (by omega) z2
    simp only at hpar
    rw [hu, Option.bind_some] at hpar
    by_cases hc : (u.1 != 0) = true
    · rw [if_pos hc] at hpar
      cases hff : parse_tokens_fail N z.1 (wds s).2.2 with
      | none => rw [hff] at hpar; cases hpar
      | some f => rw [hff] at hpar; cases hpar
    · rw [if_neg hc] at hpar
      have e : y = (t.2.2, z.2) := by simpa using hpar
      subst e
      obtain ⟨l2, f1, f2⟩ := z4 (by omega) N [] (by omega) .nil
      obtain ⟨a, ha⟩ := htt.2.2.2.2 (by omega)
      obtain ⟨a2, ha2⟩ := huu.2.2.2.2 (by omega)
      rw [List.nil_append, List.nil_append] at f1
      have hprog' := program_is N (p := 0) (L := (wds s').2.2) (by rw [← ha]; rfl) (r := .inr (z.1 + 0, l2)) (by rw [← f1]; rfl)
      have hpar' := parse_is N hN s' h2 hprog'
      refine ⟨(a, l2), ?_, NEs.mono f2 (by omega), by show z.2.length ≤ 4001; omega⟩
      rw [hpar']
      simp only
      rw [ha2, Option.bind_some, if_neg hc]

theorem parseBlanks_law (s : ByteArray) (h : WF .str s) (w : Int) (hw : WF (.int .u16) w) : bautalaw10_ParseBlanks 100002 s w = some true := by
  have hN : 20030 < 100002 := by decide
  have hw2 : 0 ≤ w ∧ w ≤ 65535 := by
    have h1 : (Lit.int .u16 w).wf = true := hw
    simp only [Lit.wf, Bool.and_eq_true, decide_eq_true_eq] at h1
    have m1 : IntKind.u16.min = 0 := rfl
    have m2 : IntKind.u16.max = 65535 := rfl
    rw [m1, m2] at h1
    exact h1
  have hl : OS (bautalaw10_lives 100002) (fun b => b = true) := ⟨_, plives_is, rfl⟩
  have lv : TS (.call (bautalaw10_lives 100002) fun y => .ret y) (fun b : Bool => b = true) := TS.call hl (fun z hz => TS.ret hz)
  have : OS (bautalaw10_ParseBlanks 100002 s w) (fun b => b = true) := by
    have hwords := words_ref 100002 s hN
    rcases parse_ok 100002 hN s with ⟨y, hy, hp⟩ | ⟨y, hy, _⟩
    · refine TS.callS (PA := fun a => a = y) (PB := fun _ => False) (.inl ⟨y, hy, rfl⟩) (fun a ha => ?_) (fun b hb => hb.elim)
      subst ha
      refine TS.call (P := fun x => x = wds s) ⟨_, hwords, rfl⟩ (fun x hx => ?_)
      refine TS.brT ?_ lv
      rcases hp.2.2 with e | e <;> rw [e] <;> rfl
    · refine TS.callS (PA := fun _ => False) (PB := fun b => b = y) (.inr ⟨y, hy, rfl⟩) (fun a ha => ha.elim) (fun b hb => ?_)
      subst hb
      refine TS.call (P := fun x => x = wds s) ⟨_, hwords, rfl⟩ (fun x hx => ?_)
      subst hx
      refine TS.br (fun _ => lv) (fun hc => ?_)
      have h0 : (wds s).2.1 = 0 := by simpa using hc
      dsimp only
      refine TS.br (fun _ => lv) (fun hc2 => ?_)
      refine TS.br (fun _ => lv) (fun hc3 => ?_)
      rw [ltI_eq] at hc3
      have hsz : s.size ≤ 19000 := by simp at hc3; omega
      have hf : Fin s (wds s).2.2 := by
        rcases wds_ok s with ⟨_, h, _⟩ | ⟨h, _⟩
        · exact h
        · exact absurd h0 h
      have hpos := hf.some
      -- which token
      have hi0 : 0 ≤ w.tmod ((wds s).2.2.length : Int) := Int.tmod_nonneg _ hw2.1
      have hi1 : w.tmod ((wds s).2.2.length : Int) < ((wds s).2.2.length : Int) := Int.tmod_lt_of_pos _ (by omega)
      generalize hi : w.tmod ((wds s).2.2.length : Int) = i at hi0 hi1
      obtain ⟨a, n, g1, g2, _, _⟩ := (hf.each i.toNat (by omega)).1.size
      have hmem : ∃ t ∈ (wds s).2.2, t.2.2 = (a : Int) := by
        refine ⟨(wds s).2.2.getD i.toNat dt, ?_, g2⟩
        rw [List.getD_eq_getElem?_getD, List.getElem?_eq_getElem (by omega : i.toNat < (wds s).2.2.length)]
        exact List.getElem_mem _
      have hj : OS (bautalaw10_ParseBlanks_j5b 100002 s w 13 ByteArray.empty 0 b.1 b.2 [] (wds s).2.2) (fun b => b = true) := by
        have e1 : IntKind.i64.wrap w = w := i64_in (by omega)
        refine TS.brT (by rw [not_iffB, dec_iffB]; omega) ?_
        dsimp only
        rw [e1, hi]
        refine TS.brT (by rw [inRange_iff]; omega) ?_
        have g2' : ((wds s).2.2.getD i.toNat (0, (ByteArray.empty, 0))).2.2 = (a : Int) := g2
        rw [g2']
        have cc : (leI 0 (a : Int) && leI (a : Int) (s.size : Int)) = true := by simp only [Bool.and_eq_true, leI_iff]; omega
        refine TS.brT cc ?_
        have z1 : (s.extract 0 a).size = a := by rw [ByteArray.size_extract]; omega
        have z2 : (s.extract a s.size).size = s.size - a := by rw [ByteArray.size_extract]; omega
        have z3 : (⟨#[10, 9, 32, 47, 47, 32, 120, 10, 32]⟩ : ByteArray).size = 9 := rfl
        refine TS.brT (by rw [leI_iff, toNat_nat, z1, z3]; omega) ?_
        refine TS.brT cc ?_
        refine TS.brT (by rw [leI_iff, toNat_nat, z2, ByteArray.size_append, z1, z3]; omega) ?_
        rw [toNat_nat]
        have hbs : bs ((s.extract 0 a ++ (⟨#[10, 9, 32, 47, 47, 32, 120, 10, 32]⟩ : ByteArray)) ++ s.extract a s.size) = (bs s).take a ++ (ins ++ (bs s).drop a) := by
          rw [bs_append, bs_append, bs_extract, bs_tail, List.append_assoc]
          simp only [List.drop_zero, Nat.sub_zero]
          rfl
        obtain ⟨w1, w2⟩ := wds_blanks s _ a (by omega) hbs hsz h0 hmem
        obtain ⟨y', f1, f2, f3⟩ := parse_blank 100002 hN s _ h0 w1 w2 b hy
        refine TS.callS (PA := fun _ => False) (PB := fun b => b = y') (.inr ⟨y', f1, rfl⟩) (fun a ha => ha.elim) (fun c hc4 => ?_)
        subst hc4
        have hsame : bautaref10_Same 100002 13 ByteArray.empty 0 b.1 b.2 [] 13 ByteArray.empty 0 c.1 c.2 [] false = some true :=
          same_ok 100002 hN 100002 4002 (x := .mk 13 ByteArray.empty 0 b.1 b.2 []) (y := .mk 13 ByteArray.empty 0 c.1 c.2 []) (.mk f2 (by omega) (by simp)) (by decide)
        refine TS.call (P := fun x => x = true) ⟨_, hsame, rfl⟩ (fun x hx => TS.brT hx lv)
      exact TS.call hj (fun z hz => TS.ret hz)
  obtain ⟨b, hb, rfl⟩ := this
  exact hb
end Go.Proofs.YtfbnofpfinenkaaDoorV
