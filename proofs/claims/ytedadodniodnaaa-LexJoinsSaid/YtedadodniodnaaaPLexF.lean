/- The plain law LexJoins. -/
import Derived.Test.YtedadodniodnaaaPLexD
namespace Go.Proofs.YtedadodniodnaaaV
set_option linter.unusedVariables false
set_option linter.unusedSimpArgs false

/-! ### A token with a blank behind it -/
theorem tw_app (p : UInt8 → Bool) (h32 : p 32 = false) : ∀ (l r : List UInt8), (∀ c ∈ l, p c = true) → tw p (l ++ 32 :: r) = l.length
  | [], r, _ => by rw [List.nil_append, tw, if_neg (by rw [h32]; decide)]; rfl
  | c :: l, r, h => by
    rw [List.cons_append, tw, if_pos (h c (by simp)), tw_app p h32 l r (fun d hd => h d (by simp [hd]))]
    simp

theorem nxt_again {L : List UInt8} (hL : L ≠ []) {k n : Nat} (h : nxt L = some (k, n)) (r : List UInt8) : nxt (L.take n ++ 32 :: r) = some (k, n) := by
  obtain ⟨c, l, rfl⟩ : ∃ c l, L = c :: l := by cases L with
    | nil => exact absurd rfl hL
    | cons c l => exact ⟨c, l, rfl⟩
  obtain ⟨n0, n1, _⟩ := nxt_len hL h
  obtain ⟨m, rfl⟩ : ∃ m, n = m + 1 := ⟨n - 1, by omega⟩
  have hlen : ((c :: l).take (m + 1)).length = m + 1 := by rw [List.length_take]; omega
  have h0 : (((c :: l).take (m + 1)) ++ 32 :: r).getD 0 0 = c := by simp
  unfold nxt at h ⊢
  simp only [List.getD_cons_zero] at h
  simp only [h0]
  by_cases hc : isLet c = true
  · rw [if_pos hc] at h ⊢
    have hn : tw isInn (c :: l) = m + 1 := by
      split at h
      · exact (Prod.mk.inj (Option.some.inj h)).2
      · split at h
        · cases h
        · exact (Prod.mk.inj (Option.some.inj h)).2
    have htw : tw isInn ((c :: l).take (m + 1) ++ 32 :: r) = m + 1 := by
      rw [tw_app isInn (by decide) _ _ (by rw [← hn]; exact tw_take isInn _), hlen]
    rw [htw, List.take_append_of_le_length (by omega), List.take_take, Nat.min_self]
    rw [hn] at h
    exact h
  · rw [if_neg hc] at h ⊢
    by_cases hd : isDig c = true
    · rw [if_pos hd] at h ⊢
      have hn : tw isAln (c :: l) = m + 1 := (Prod.mk.inj (Option.some.inj h)).2
      rw [tw_app isAln (by decide) _ _ (by rw [← hn]; exact tw_take isAln _), hlen]
      rw [← (Prod.mk.inj (Option.some.inj h)).1]
    · rw [if_neg hd] at h ⊢
      by_cases h3 : ([60, 60, 60] : List UInt8).isPrefixOf (c :: l) = true
      · rw [if_pos h3] at h
        cases h
        have e : (c :: l).take 3 = [60, 60, 60] := by
          rw [pre_take] at h3
          simpa using h3
        rw [show (2 + 1 : Nat) = 3 from rfl, e, if_pos (by simp [List.isPrefixOf])]
      · rw [if_neg h3] at h
        by_cases h2 : ([60, 60] : List UInt8).isPrefixOf (c :: l) = true ∨ ([62, 62] : List UInt8).isPrefixOf (c :: l) = true ∨ ([46, 46] : List UInt8).isPrefixOf (c :: l) = true
        · rw [if_pos h2] at h
          cases h
          simp only [pre_take, List.length_cons, List.length_nil, Nat.zero_add, Nat.reduceAdd, beq_iff_eq] at h2
          rw [show (1 + 1 : Nat) = 2 from rfl]
          rcases h2 with h2 | h2 | h2 <;> rw [h2] <;> simp [List.isPrefixOf]
        · rw [if_neg h2] at h
          split at h
          · rename_i hs
            cases h
            rw [show (0 + 1 : Nat) = 1 from rfl, List.take_succ_cons, List.take_zero]
            rw [if_neg (by simp [List.isPrefixOf]), if_neg (by simp [List.isPrefixOf]), if_pos hs]
          · cases h

theorem nxt_skip {L : List UInt8} (hL : L ≠ []) {k n : Nat} (h : nxt L = some (k, n)) (r : List UInt8) : skipL (L.take n ++ 32 :: r) = 0 := by
  obtain ⟨c, l, rfl⟩ : ∃ c l, L = c :: l := by cases L with
    | nil => exact absurd rfl hL
    | cons c l => exact ⟨c, l, rfl⟩
  obtain ⟨n0, n1, _⟩ := nxt_len hL h
  obtain ⟨m, rfl⟩ : ∃ m, n = m + 1 := ⟨n - 1, by omega⟩
  have hc : isWs c = false ∧ c.toNat ≠ 47 := by
    by_cases hw : isWs c = true ∨ c.toNat = 47
    · exfalso
      have h1 : isLet c = false := by
        rcases hw with hw | hw
        · simp only [isWs, Bool.or_eq_true, decide_eq_true_eq] at hw
          simp only [isLet, Bool.or_eq_false_iff, Bool.and_eq_false_iff, decide_eq_false_iff_not]
          omega
        · simp only [isLet, Bool.or_eq_false_iff, Bool.and_eq_false_iff, decide_eq_false_iff_not]
          omega
      have h2 : isDig c = false := by
        rcases hw with hw | hw
        · simp only [isWs, Bool.or_eq_true, decide_eq_true_eq] at hw
          simp only [isDig, Bool.and_eq_false_iff, decide_eq_false_iff_not]
          omega
        · simp only [isDig, Bool.and_eq_false_iff, decide_eq_false_iff_not]
          omega
      have h3 : ∀ d : UInt8, d.toNat = 60 ∨ d.toNat = 62 ∨ d.toNat = 46 → (d == c) = false := by
        intro d hd
        rw [beq_eq_false_iff_ne]
        rintro rfl
        rcases hw with hw | hw
        · simp only [isWs, Bool.or_eq_true, decide_eq_true_eq] at hw
          omega
        · omega
      have h4 : sgn.contains c = false := by
        rw [Bool.eq_false_iff]
        intro hh
        have hm : c ∈ sgn := by simpa using hh
        have : ∀ d ∈ sgn, isWs d = false ∧ d.toNat ≠ 47 := by decide
        have := this c hm
        rcases hw with hw | hw
        · rw [this.1] at hw; cases hw
        · exact this.2 hw
      unfold nxt at h
      simp only [List.getD_cons_zero, h1, h2, Bool.false_eq_true, if_false, List.isPrefixOf, h3 60 (.inl rfl), h3 62 (.inr (.inl rfl)), h3 46 (.inr (.inr rfl)), Bool.false_and, or_self, h4] at h
      cases h
    · constructor
      · exact Bool.eq_false_iff.2 fun h => hw (.inl h)
      · exact fun h => hw (.inr h)
  rw [List.take_succ_cons, List.cons_append, skipL, skipM_f, if_neg (by rw [hc.1]; decide), if_neg (fun hh => hc.2 hh.1)]

/-- A token as it stands in a list: it is read again where a blank follows it. -/
structure T1 (x : Tok) : Prop where
  again : ∃ k : Nat, x.1 = (k : Int) ∧ ∀ r, nxt (bs x.2.1 ++ 32 :: r) = some (k, (bs x.2.1).length)
  skip : ∀ r, skipL (bs x.2.1 ++ 32 :: r) = 0
  pos : bs x.2.1 ≠ []
  small : x.2.1.size ≤ 20000

theorem toks_t1 (s : ByteArray) (hs : s.size ≤ 20000) : ∀ (f a : Nat) (acc : List Tok), s.size - a < f → a ≤ s.size → acc.length ≤ 4000 → (∀ x ∈ acc, T1 x) → (toks s f a acc).2.1 = 0 →
    ∃ l, (toks s f a acc).2.2 = l ++ [(0, (ByteArray.empty, (s.size : Int)))] ∧ l.length < 4000 ∧ ∀ x ∈ l, T1 x
  | 0, a, acc, h, _, _, _, _ => by omega
  | f + 1, a, acc, hf, ha, hacc, hi, h0 => by
    rw [toks] at h0 ⊢
    by_cases h : a < s.size
    · rw [if_pos h] at h0 ⊢
      have hd : ((bs s).drop a).length = s.size - a := by rw [List.length_drop, ← bs_size]
      have hne : (bs s).drop a ≠ [] := by
        intro e
        rw [e] at hd
        simp at hd
        omega
      cases hn : nxt ((bs s).drop a) with
      | none => rw [hn] at h0; exact absurd h0 (by show ¬ (100 : Int) = 0; decide)
      | some kn =>
        obtain ⟨k, n⟩ := kn
        rw [hn] at h0
        obtain ⟨q1, q2, q3⟩ := nxt_len hne hn
        rw [hd] at q2
        have hsk : skipL ((bs s).drop (a + n)) ≤ ((bs s).drop (a + n)).length := skip_le false _
        rw [List.length_drop, ← bs_size] at hsk
        simp only at h0 ⊢
        by_cases h4 : acc.length = 4000
        · rw [if_pos h4] at h0; exact absurd h0 (by show ¬ (150 : Int) = 0; decide)
        · rw [if_neg h4] at h0 ⊢
          have hx : bs (s.extract a (a + n)) = ((bs s).drop a).take n := by rw [bs_extract, Nat.add_sub_cancel_left]
          have hxl : (((bs s).drop a).take n).length = n := by rw [List.length_take]; omega
          refine toks_t1 s hs f _ _ (by omega) (by omega) (by simp; omega) (fun x hxm => ?_) h0
          rcases List.mem_append.1 hxm with hxm | hxm
          · exact hi x hxm
          · obtain rfl := List.mem_singleton.1 hxm
            refine ⟨⟨k, rfl, fun r => ?_⟩, fun r => ?_, ?_, ?_⟩
            · show nxt (bs (s.extract a (a + n)) ++ 32 :: r) = some (k, (bs (s.extract a (a + n))).length)
              rw [hx, hxl]; exact nxt_again hne hn r
            · show skipL (bs (s.extract a (a + n)) ++ 32 :: r) = 0
              rw [hx]; exact nxt_skip hne hn r
            · show bs (s.extract a (a + n)) ≠ []
              rw [hx]; intro e; rw [e] at hxl; simp at hxl; omega
            · show (s.extract a (a + n)).size ≤ 20000
              rw [bs_size, hx, hxl]; omega
    · rw [if_neg h] at h0 ⊢
      obtain rfl : a = s.size := by omega
      by_cases h4 : acc.length = 4000
      · rw [if_pos h4] at h0; exact absurd h0 (by show ¬ (150 : Int) = 0; decide)
      · rw [if_neg h4]; exact ⟨acc, rfl, by omega, hi⟩

/-! ### What is joined -/
/-- The first i joined. -/
def jn (l : List Tok) : Nat → List UInt8
  | 0 => []
  | i + 1 => jn l i ++ (if 0 < i then [32] else []) ++ bs (l.getD i dt).2.1
def body (l : List Tok) : List UInt8 := l.flatMap fun x => bs x.2.1 ++ [32]
theorem jn_body (l : List Tok) (e : Tok) : ∀ i, i ≤ l.length → jn (l ++ [e]) i ++ (if 0 < i then [32] else []) = body (l.take i)
  | 0, _ => rfl
  | i + 1, h => by
    have ih := jn_body l e i (by omega)
    rw [jn, ih, if_pos (Nat.succ_pos i), take_snoc l (by omega), body, body, List.flatMap_append, getD_left _ _ _ (by omega : i < l.length), getD_nat _ _ _ (by omega : i < l.length)]
    simp
theorem jn_all (l : List Tok) (e : Tok) (he : bs e.2.1 = []) : jn (l ++ [e]) (l.length + 1) = body l := by
  have := jn_body l e l.length (Nat.le_refl _)
  rw [jn, this, List.take_length, getD_last _ _ _ rfl, he, List.append_nil]
theorem jn_len (l : List Tok) (h : ∀ i, (l.getD i dt).2.1.size ≤ 20000) : ∀ i, (jn l i).length ≤ i * 20001
  | 0 => Nat.le_refl _
  | i + 1 => by
    have ih := jn_len l h i
    have := h i
    rw [bs_size] at this
    have e : (if 0 < i then [32] else [] : List UInt8).length ≤ 1 := by split <;> simp
    rw [jn, List.length_append, List.length_append, Nat.add_mul]
    omega

def nats (l : List UInt8) : List Int := l.map fun b => (b.toNat : Int)
theorem bytes_nats (l : List UInt8) : bytesS (nats l) = ⟨l.toArray⟩ := by
  unfold bytesS nats
  rw [List.map_map]
  congr 1
  have : ((fun n : Int => UInt8.ofNat n.toNat) ∘ fun b : UInt8 => (b.toNat : Int)) = id := by
    funext b; simp
  rw [this, List.map_id]
theorem sBytes_nats (s : ByteArray) : sBytes s = nats (bs s) := rfl
theorem nats_app (a b : List UInt8) : nats (a ++ b) = nats a ++ nats b := List.map_append
theorem nats_len (a : List UInt8) : (nats a).length = a.length := List.length_map _

theorem wb_is (N : Nat) (L : List UInt8) (h : L.length ≤ 1000000000) : strings_Builder_WriteByte N 32 (nats L) = some (nats (L ++ [32])) := by
  have h1 : ltI (((nats L).length : Int) + 1) 140737488355328 = true := by rw [ltI_iff, nats_len]; omega
  have h2 : ltI ((((nats L).length : Int) + 1) * 1) 140737488355328 = true := by rw [Int.mul_one]; exact h1
  rw [strings_Builder_WriteByte, strings_Builder_WriteByte_T, run_call, strings_Builder_copyCheck, Option.bind_some, h2, nats_app]
  rfl
theorem wstr_is (N : Nat) (S : ByteArray) (L : List UInt8) (h : L.length + S.size ≤ 1000000000) : strings_Builder_WriteString N S (nats L) = some ((S.size : Int), nats (L ++ bs S)) := by
  have h1 : ltI (((nats L).length : Int) + ((sBytes S).length : Int)) 140737488355328 = true := by rw [ltI_iff, sBytes_nats, nats_len, nats_len, ← bs_size]; omega
  have h2 : ltI ((((nats L).length : Int) + ((sBytes S).length : Int)) * 1) 140737488355328 = true := by rw [Int.mul_one]; exact h1
  rw [strings_Builder_WriteString, strings_Builder_WriteString_T, run_call, strings_Builder_copyCheck, Option.bind_some, h2, nats_app]
  rfl

theorem join_is (N : Nat) (hN : 20030 < N) (l : List Tok) (hl : l.length ≤ 4000) (h : ∀ i, (l.getD i dt).2.1.size ≤ 20000) : lex_Join N l = some (⟨(jn l l.length).toArray⟩ : ByteArray) := by
  have key := loop_up (s := fun v => lex_Join_l3_T N l (l.length : Int) v.1 v.2) (fun i : Nat => ((i : Int), nats (jn l i))) l.length (nats (jn l l.length)) (k := 0) (m := N) (Nat.zero_le _) (by omega) (fun i _ hi => ?_) ?_
  · simp only [lex_Join, lex_Join_T, run_call, run_ret, lex_Join_l3]
    rw [show ((0 : Int), ([] : List Int)) = (((0 : Nat) : Int), nats (jn l 0)) from rfl, key]
    simp only [Option.bind_some, strings_Builder_String, strings_Builder_String_T, run_br, run_ret, decide_true, if_true, bytes_nats]
  · have c1 : (0 : Int) ≤ (i : Int) ∧ (i : Int) < (l.length : Int) := by omega
    have w := jn_len l h i
    have hs : (l.getD i (0, (ByteArray.empty, 0))).2.1.size ≤ 20000 := h i
    have e : jn l (i + 1) = jn l i ++ (if 0 < i then [32] else []) ++ bs (l.getD i (0, (ByteArray.empty, 0))).2.1 := rfl
    by_cases h0 : 0 < i
    · have c2 : (0 : Int) < (i : Int) := by omega
      have e1 := wb_is N (jn l i) (by omega)
      have e2 := wstr_is N (l.getD i (0, (ByteArray.empty, 0))).2.1 (jn l i ++ [32]) (by rw [List.length_append, List.length_singleton]; omega)
      simp only [lex_Join_l3_T, run_br, run_call, run_ret, ltI_iff, inRange_iff, toNat_nat, if_pos c1, if_pos c1.2, i64_succ (by omega : i < 9223372036854775807), if_pos c2, e1, e2, Option.bind_some]
      rw [e, if_pos h0]
    · have c2 : ¬ (0 : Int) < (i : Int) := by omega
      have e2 := wstr_is N (l.getD i (0, (ByteArray.empty, 0))).2.1 (jn l i) (by omega)
      simp only [lex_Join_l3_T, run_br, run_call, run_ret, ltI_iff, inRange_iff, toNat_nat, if_pos c1, if_pos c1.2, i64_succ (by omega : i < 9223372036854775807), if_neg c2, e2, Option.bind_some]
      rw [e, if_neg h0, List.append_nil]
  · simp only [lex_Join_l3_T, run_br, run_ret, ltI_iff]
    rw [if_neg (by omega)]

theorem rjoin_is (N : Nat) (hN : 20030 < N) (l : List Tok) (hl : l.length ≤ 4000) (h : ∀ i, (l.getD i dt).2.1.size ≤ 20000) : bautaref09_Join N l = some (⟨(jn l l.length).toArray⟩ : ByteArray) := by
  have bsm : ∀ L : List UInt8, bs (⟨L.toArray⟩ : ByteArray) = L := fun L => rfl
  have szm : ∀ L : List UInt8, (⟨L.toArray⟩ : ByteArray).size = L.length := fun L => by rw [bs_size]
  have app : ∀ (L : List UInt8) (x : ByteArray), (⟨L.toArray⟩ : ByteArray) ++ x = (⟨(L ++ bs x).toArray⟩ : ByteArray) := fun L x => bs_ext (by rw [bs_append])
  have key := loop_up (s := fun v => bautaref09_Join_l3_T N l v.1 v.2) (fun i : Nat => ((⟨(jn l i).toArray⟩ : ByteArray), (i : Int))) l.length (⟨(jn l l.length).toArray⟩ : ByteArray) (k := 0) (m := N) (Nat.zero_le _) (by omega) (fun i _ hi => ?_) ?_
  · simp only [bautaref09_Join, bautaref09_Join_T, run_call, run_ret, bautaref09_Join_l3]
    rw [show (ByteArray.empty, (0 : Int)) = ((⟨(jn l 0).toArray⟩ : ByteArray), ((0 : Nat) : Int)) from rfl, key]
    rfl
  · have c1 : (0 : Int) ≤ (i : Int) ∧ (i : Int) < (l.length : Int) := by omega
    have w := jn_len l h i
    have hs := h i
    have j7 : ∀ L : List UInt8, L.length ≤ 1000000000 → bautaref09_Join_j7 N l (⟨L.toArray⟩ : ByteArray) (i : Int) = some (⟨(L ++ bs (l.getD i dt).2.1).toArray⟩ : ByteArray) := by
      intro L hL
      have s0 := szm L
      have hs' : (l.getD i (0, (ByteArray.empty, 0))).2.1.size ≤ 20000 := hs
      simp only [bautaref09_Join_j7, bautaref09_Join_j7_T, run_br, run_ret, inRange_iff, leI_iff, toNat_nat, if_pos c1]
      rw [if_pos (by omega), app]
    simp only [bautaref09_Join_l3_T, run_br, run_call, run_ret, ltI_iff, leI_iff, if_pos c1.2, i64_succ (by omega : i < 9223372036854775807)]
    have s0 := szm (jn l i)
    rw [show jn l (i + 1) = jn l i ++ (if 0 < i then [32] else []) ++ bs (l.getD i dt).2.1 from rfl]
    by_cases h0 : 0 < i
    · have s1 : (⟨#[32]⟩ : ByteArray).size = 1 := rfl
      rw [if_pos (by omega), if_pos (by rw [s1]; omega), app, show bs (⟨#[32]⟩ : ByteArray) = [32] from rfl, j7 _ (by rw [List.length_append]; simp; omega), if_pos h0]
      rfl
    · rw [if_neg (by omega), j7 _ (by omega), if_neg h0, List.append_nil]
      rfl
  · simp only [bautaref09_Join_l3_T, run_br, run_ret, ltI_iff]
    rw [if_neg (by omega)]

/-! ### The joined are read again -/
theorem reread (t : ByteArray) : ∀ (l : List Tok) (f a : Nat) (acc : List Tok), (∀ x ∈ l, T1 x) → (bs t).drop a = body l → a ≤ t.size → t.size - a < f → acc.length + l.length < 4000 →
    ∃ l2 : List Tok, toks t f a acc = (0, 0, acc ++ l2 ++ [(0, (ByteArray.empty, (t.size : Int)))]) ∧ l2.map (fun x => (x.1, bs x.2.1)) = l.map (fun x => (x.1, bs x.2.1))
  | _, 0, a, acc, _, _, _, h, _ => by omega
  | [], f + 1, a, acc, _, hb, ha, hf, hacc => by
    have : t.size - a = 0 := by
      have := congrArg List.length hb
      rw [List.length_drop, ← bs_size] at this
      exact this
    obtain rfl : a = t.size := by omega
    rw [toks, if_neg (by omega), if_neg (by simp at hacc; omega)]
    exact ⟨[], by simp, rfl⟩
  | x :: l, f + 1, a, acc, ht, hb, ha, hf, hacc => by
    obtain ⟨⟨k, hk, hn⟩, hsk, hpos, _⟩ := ht x (by simp)
    have hb' : (bs t).drop a = bs x.2.1 ++ 32 :: body l := by rw [hb, body, List.flatMap_cons]; simp [body]
    have hlen : t.size - a = (bs x.2.1).length + (1 + (body l).length) := by
      have := congrArg List.length hb'
      rw [List.length_drop, ← bs_size, List.length_append, List.length_cons] at this
      omega
    have hp : 0 < (bs x.2.1).length := List.length_pos_iff.2 hpos
    have hd2 : (bs t).drop (a + (bs x.2.1).length) = 32 :: body l := by
      rw [← List.drop_drop, hb', List.drop_left' rfl]
    have hsl : skipL (body l) = 0 := by
      cases l with
      | nil => rfl
      | cons y l =>
        have := (ht y (by simp)).skip (body l)
        rw [body, List.flatMap_cons]
        simpa [body] using this
    have hs1 : skipL ((bs t).drop (a + (bs x.2.1).length)) = 1 := by
      rw [hd2, skipL, skipM_f, if_pos (by decide)]
      simp only [skipL] at hsl
      rw [hsl]
    rw [toks, if_pos (by omega), hb', hn]
    simp only
    rw [if_neg (by simp at hacc; omega), hs1]
    have hx : bs (t.extract a (a + (bs x.2.1).length)) = bs x.2.1 := by
      rw [bs_extract, Nat.add_sub_cancel_left, hb', List.take_left' rfl]
    obtain ⟨l2, e1, e2⟩ := reread t l f (a + (bs x.2.1).length + 1) (acc ++ [((k : Int), (t.extract a (a + (bs x.2.1).length), (a : Int)))]) (fun y hy => ht y (by simp [hy]))
      (by rw [← List.drop_drop, hd2]; rfl) (by omega) (by omega) (by simp at hacc ⊢; omega)
    refine ⟨((k : Int), (t.extract a (a + (bs x.2.1).length), (a : Int))) :: l2, ?_, ?_⟩
    · rw [e1]; simp
    · rw [List.map_cons, List.map_cons, e2, hk]
      congr 1
      exact Prod.ext rfl hx

theorem same_f (N : Nat) (hN : 20030 < N) (l l2 : List Tok) (hl : l.length ≤ 4001) (h : l2.map (fun x => (x.1, bs x.2.1)) = l.map (fun x => (x.1, bs x.2.1))) : bautaref09_Same N l l2 false = some true := by
  have hlen : l2.length = l.length := by
    have := congrArg List.length h
    simpa using this
  have hi : ∀ i, i < l.length → (l2.getD i dt).1 = (l.getD i dt).1 ∧ (l2.getD i dt).2.1.data.toList = (l.getD i dt).2.1.data.toList := by
    intro i hi
    have := congrArg (fun m => m[i]?) h
    simp only [List.getElem?_map] at this
    rw [List.getElem?_eq_getElem hi, List.getElem?_eq_getElem (by omega : i < l2.length)] at this
    simp only [Option.map_some, Option.some.injEq, Prod.mk.injEq] at this
    rw [getD_nat _ _ _ hi, getD_nat _ _ _ (by omega : i < l2.length)]
    exact this
  have := loop_up (s := fun v => bautaref09_Same_l4_T N l l2 false v) (fun i : Nat => (i : Int)) l.length (.inr ()) (k := 0) (m := N) (Nat.zero_le _) (by omega) (fun i _ hi' => ?_) ?_
  · simp only [bautaref09_Same, bautaref09_Same_T, run_br, run_call, run_ret, bautaref09_Same_l4]
    rw [if_neg (by simp [hlen]), show (0 : Int) = ((0 : Nat) : Int) from rfl, this]; rfl
  · have c1 : (0 : Int) ≤ (i : Int) ∧ (i : Int) < (l.length : Int) := by omega
    have c2 : (0 : Int) ≤ (i : Int) ∧ (i : Int) < (l2.length : Int) := by omega
    obtain ⟨e1, e2⟩ := hi i hi'
    simp only [bautaref09_Same_l4_T, run_br, run_ret, ltI_iff, inRange_iff, toNat_nat, if_pos c1, if_pos c1.2, if_pos c2, i64_succ (by omega : i < 9223372036854775807), e1, e2, Lib.toList_data, bne_self_eq_false, Bool.false_eq_true, if_false, BEq.rfl, Bool.not_true]
  · simp only [bautaref09_Same_l4_T, run_br, run_ret, ltI_iff]
    rw [if_neg (by omega)]

theorem lexJoins_is (N : Nat) (hN : 20030 < N) (s : ByteArray) : bautalaw09_LexJoins N s = some true := by
  simp only [bautalaw09_LexJoins, bautalaw09_LexJoins_T, run_br, run_call, run_ret, words_lex N _ hN, Option.bind_some, bne_iff_ne, ne_eq, beq_iff_eq, lives_is N hN, ltI_iff]
  rcases wds_ok s with ⟨h1, _, hs⟩ | ⟨h1, h2⟩
  · rw [if_neg (by rw [h1]; simp)]
    have hw : wds s = toks s (s.size + 1) (skipL (bs s)) [] := by unfold wds; rw [if_neg (by omega)]
    have hsk : skipL (bs s) ≤ (bs s).length := skip_le false (bs s)
    rw [← bs_size] at hsk
    obtain ⟨l, hl1, hl2, hl3⟩ := toks_t1 s hs (s.size + 1) (skipL (bs s)) [] (by omega) hsk (by simp) (by simp) (by rw [← hw]; exact h1)
    rw [← hw] at hl1
    have hlen : (wds s).2.2.length = l.length + 1 := by rw [hl1]; simp
    have hsm : ∀ i, ((wds s).2.2.getD i dt).2.1.size ≤ 20000 := by
      intro i
      rw [hl1]
      rcases Nat.lt_or_ge i l.length with h | h
      · rw [getD_left _ _ _ h, getD_nat _ _ _ h]
        exact (hl3 _ (List.getElem_mem h)).small
      · rcases Nat.lt_or_ge l.length i with h' | h'
        · rw [getD_over _ _ (by simp; omega)]; exact Nat.zero_le _
        · rw [getD_last _ _ _ (by omega)]; exact Nat.zero_le _
    rw [join_is N hN _ (by omega) hsm, Option.bind_some]
    have hj : jn (wds s).2.2 (wds s).2.2.length = body l := by rw [hlen, hl1]; exact jn_all l _ rfl
    rw [hj]
    by_cases hbig : 20000 < (⟨(body l).toArray⟩ : ByteArray).size
    · have : (wds (⟨(body l).toArray⟩ : ByteArray)).2.1 = 150 := by unfold wds; rw [if_pos hbig]
      rw [if_pos (by omega), if_pos this]
    · rw [if_neg (by omega), rjoin_is N hN _ (by omega) hsm, Option.bind_some, hj]
      have hsl : skipL (bs (⟨(body l).toArray⟩ : ByteArray)) = 0 := by
        show skipL (body l) = 0
        cases l with
        | nil => rfl
        | cons y l =>
          have := (hl3 y (by simp)).skip (body l)
          rw [body, List.flatMap_cons]
          simpa [body] using this
      obtain ⟨l2, e1, e2⟩ := reread (⟨(body l).toArray⟩ : ByteArray) l ((⟨(body l).toArray⟩ : ByteArray).size + 1) 0 [] hl3 rfl (Nat.zero_le _) (by omega) (by simp; omega)
      have hw2 : wds (⟨(body l).toArray⟩ : ByteArray) = toks (⟨(body l).toArray⟩ : ByteArray) ((⟨(body l).toArray⟩ : ByteArray).size + 1) 0 [] := by unfold wds; rw [if_neg hbig, hsl]
      rw [hw2, e1, if_pos rfl, if_pos rfl]
      simp only [List.nil_append]
      rw [same_f N hN _ _ (by omega) (by rw [hl1, List.map_append, List.map_append, e2]; rfl), Option.bind_some, if_pos rfl]
  · rw [if_pos h1, h2]; rfl
theorem lexJoins_law (s : ByteArray) (h : WF .str s) : bautalaw09_LexJoins 100002 s = some true := lexJoins_is 100002 (by decide) s
end Go.Proofs.YtedadodniodnaaaV
