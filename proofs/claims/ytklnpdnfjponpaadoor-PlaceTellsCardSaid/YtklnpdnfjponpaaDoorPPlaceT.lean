/- The plain law of PlaceTells. -/
import Derived.Test.YtklnpdnfjponpaaDoorPPlaceE
namespace Go.Proofs.YtklnpdnfjponpaaDoorV
set_option linter.unusedVariables false
set_option linter.unusedSimpArgs false

theorem dec_step {u : Nat} (h : ¬ u < 10) : Lib.decDigits u = Lib.decDigits (u / 10) ++ [UInt8.ofNat (48 + u % 10)] := by
  rw [Lib.decDigits, dif_neg h]

theorem digit_is {u : Nat} (h : u < 10) : (⟨#[48, 49, 50, 51, 52, 53, 54, 55, 56, 57]⟩ : ByteArray).extract u (u + 1) = ⟨(Lib.decDigits u).toArray⟩ := by
  rw [Lib.decDigits_one h]
  have : u = 0 ∨ u = 1 ∨ u = 2 ∨ u = 3 ∨ u = 4 ∨ u = 5 ∨ u = 6 ∨ u = 7 ∨ u = 8 ∨ u = 9 := by omega
  rcases this with rfl | rfl | rfl | rfl | rfl | rfl | rfl | rfl | rfl | rfl <;> (apply bs_ext; rw [bs_extract]; rfl)

theorem num_nat (N : Nat) : ∀ (k m u : Nat), k ≤ 30 → k < m → u < 10 ^ k → u ≤ 9223372036854775807 → bautaref04_Num_R N m (u : Int) = some ⟨(Lib.decDigits u).toArray⟩ ∧ (Lib.decDigits u).length ≤ k + 1
  | k, 0, u, _, h, _, _ => by omega
  | k, m + 1, u, hk, hm, hu, hb => by
    have h0 : ¬ ((u : Int) < 0) := by omega
    by_cases h1 : u < 10
    · have h2 : (u : Int) < 10 := by omega
      have ew : IntKind.i64.wrap ((u : Int) + 1) = ((u + 1 : Nat) : Int) := i64_succ (by omega)
      have h3 : (0 : Int) ≤ u ∧ ((u : Int) ≤ ((u + 1 : Nat) : Int) ∧ ((u + 1 : Nat) : Int) ≤ 10) := by omega
      refine ⟨?_, by rw [Lib.decDigits_one h1]; simp⟩
      simp only [bautaref04_Num_R, bautaref04_Num_T, run_br, run_ret, ltI_eq, leI_eq, Bool.and_eq_true, decide_eq_true_eq, if_neg h0, if_pos h2, ew, if_pos h3, toNat_nat, digit_is h1]
    · obtain ⟨k', rfl⟩ : ∃ k', k = k' + 2 := by
        rcases k with _ | _ | k'
        · simp at hu; omega
        · simp at hu; omega
        · exact ⟨k', rfl⟩
      have hp : 10 ^ (k' + 2) = 10 ^ (k' + 1) * 10 := Nat.pow_succ 10 (k' + 1)
      have hp2 : 10 ^ (k' + 1) = 10 ^ k' * 10 := Nat.pow_succ 10 k'
      have hp3 : 0 < 10 ^ k' := Nat.pow_pos (by omega)
      obtain ⟨a1, a2⟩ := num_nat N (k' + 1) m (u / 10) (by omega) (by omega) (by omega) (by omega)
      obtain ⟨b1, b2⟩ := num_nat N (k' + 1) m (u % 10) (by omega) (by omega) (by omega) (by omega)
      have h2 : ¬ ((u : Int) < 10) := by omega
      have e1 : IntKind.i64.wrap ((u : Int).tdiv 10) = ((u / 10 : Nat) : Int) := by
        have : (u : Int).tdiv 10 = ((u / 10 : Nat) : Int) := rfl
        rw [this, i64_nat (by omega)]
      have e2 : (u : Int).tmod 10 = ((u % 10 : Nat) : Int) := rfl
      have hone := Lib.decDigits_one (i := u % 10) (by omega)
      have s1 : ((⟨(Lib.decDigits (u / 10)).toArray⟩ : ByteArray)).size = (Lib.decDigits (u / 10)).length := by rw [bs_size]
      have s2 : ((⟨(Lib.decDigits (u % 10)).toArray⟩ : ByteArray)).size = 1 := by rw [bs_size, hone]; rfl
      have hc : leI (((⟨(Lib.decDigits (u / 10)).toArray⟩ : ByteArray).size : Int) + (⟨(Lib.decDigits (u % 10)).toArray⟩ : ByteArray).size) 9223372036854775807 = true := by
        rw [leI_eq, decide_eq_true_eq, s1, s2]; omega
      have hs := dec_step h1
      refine ⟨?_, by rw [hs, List.length_append, List.length_singleton]; omega⟩
      simp only [bautaref04_Num_R, bautaref04_Num_T, run_br, run_call, run_ret, e1, e2, a1, b1, Option.bind_some, hc, if_true]
      simp only [ltI_eq, decide_eq_true_eq, if_neg h0, if_neg h2, Option.some.injEq]
      apply bs_ext
      rw [bs_append]
      show Lib.decDigits (u / 10) ++ Lib.decDigits (u % 10) = Lib.decDigits u
      rw [hs, hone]

theorem num_is (N : Nat) (hN : 100 < N) {n : Int} (h1 : -9223372036854775808 < n) (h2 : n ≤ 9223372036854775807) : bautaref04_Num N n = some ⟨(Lib.itoa n).toArray⟩ ∧ (Lib.itoa n).length ≤ 40 := by
  have hp : (10 : Nat) ^ 30 = 1000000000000000000000000000000 := by decide
  unfold bautaref04_Num Lib.itoa
  by_cases h0 : n < 0
  · obtain ⟨u, hu⟩ : ∃ u : Nat, n = -(u : Int) := ⟨n.natAbs, by omega⟩
    subst hu
    obtain ⟨M, rfl⟩ : ∃ M, N = M + 1 := ⟨N - 1, by omega⟩
    obtain ⟨a1, a2⟩ := num_nat (M + 1) 30 M u (by omega) (by omega) (by omega) (by omega)
    have e1 : IntKind.i64.wrap (0 - -(u : Int)) = (u : Int) := by rw [i64_in (by omega)]; omega
    have e2 : (-(u : Int)).natAbs = u := by omega
    have s1 : ((⟨#[45]⟩ : ByteArray)).size = 1 := rfl
    have s2 : ((⟨(Lib.decDigits u).toArray⟩ : ByteArray)).size = (Lib.decDigits u).length := by rw [bs_size]
    have hc : leI (((⟨#[45]⟩ : ByteArray).size : Int) + (⟨(Lib.decDigits u).toArray⟩ : ByteArray).size) 9223372036854775807 = true := by
      rw [leI_eq, decide_eq_true_eq, s1, s2]; omega
    rw [if_pos h0, e2]
    refine ⟨?_, by rw [List.length_cons]; omega⟩
    simp only [bautaref04_Num_R, bautaref04_Num_T, run_br, run_call, run_ret, e1, a1, Option.bind_some, hc, if_true]
    simp only [ltI_eq, decide_eq_true_eq, if_pos h0, Option.some.injEq]
    apply bs_ext
    rw [bs_append]
    rfl
  · obtain ⟨u, hu⟩ : ∃ u : Nat, n = (u : Int) := ⟨n.toNat, by omega⟩
    subst hu
    obtain ⟨a1, a2⟩ := num_nat N 30 N u (by omega) (by omega) (by omega) (by omega)
    rw [if_neg h0, toNat_nat]
    exact ⟨a1, by omega⟩

theorem dmin : Lib.itoa (-9223372036854775808) = [45, 57, 50, 50, 51, 51, 55, 50, 48, 51, 54, 56, 53, 52, 55, 55, 53, 56, 48, 56] := by
  unfold Lib.itoa
  rw [if_pos (by omega)]
  show 45 :: Lib.decDigits 9223372036854775808 = _
  rw [dec_step (by decide), dec_step (by decide), dec_step (by decide), dec_step (by decide), dec_step (by decide), dec_step (by decide), dec_step (by decide), dec_step (by decide), dec_step (by decide), dec_step (by decide), dec_step (by decide), dec_step (by decide), dec_step (by decide), dec_step (by decide), dec_step (by decide), dec_step (by decide), dec_step (by decide), dec_step (by decide), Lib.decDigits_one (by decide)]
  rfl

theorem itoa_is (N : Nat) {n : Int} (h1 : -9223372036854775808 ≤ n) (h2 : n ≤ 9223372036854775807) : strconv_Itoa N n = some ⟨(Lib.itoa n).toArray⟩ := by
  unfold strconv_Itoa
  rw [if_pos ⟨h1, h2⟩]

theorem word_same (N : Nat) (hN : 100 < N) {e : Int} (h1 : -9223372036854775808 ≤ e) (h2 : e ≤ 9223372036854775807) : ∃ w, place_word N e = some w ∧ bautaref29_Word N e = some w ∧ w.size ≤ 60 := by
  simp only [place_word, place_word_T, bautaref29_Word, bautaref29_Word_T, run_br, run_call, run_ret, beq_iffI]
  by_cases c0 : e = 0
  · exact ⟨_, if_pos c0, if_pos c0, by decide⟩
  by_cases c1 : e = 100
  · exact ⟨⟨#[115, 121, 110, 116, 97, 120]⟩, by rw [if_neg c0, if_pos c1], by rw [if_neg c0, if_pos c1], by decide⟩
  by_cases c2 : e = 120
  · exact ⟨⟨#[116, 121, 112, 101]⟩, by rw [if_neg c0, if_neg c1, if_pos c2], by rw [if_neg c0, if_neg c1, if_pos c2], by decide⟩
  by_cases c3 : e = 130
  · exact ⟨⟨#[115, 101, 99, 114, 101, 116, 32, 102, 108, 111, 119]⟩, by rw [if_neg c0, if_neg c1, if_neg c2, if_pos c3], by rw [if_neg c0, if_neg c1, if_neg c2, if_pos c3], by decide⟩
  by_cases c4 : e = 140
  · exact ⟨⟨#[111, 114, 100, 101, 114]⟩, by rw [if_neg c0, if_neg c1, if_neg c2, if_neg c3, if_pos c4], by rw [if_neg c0, if_neg c1, if_neg c2, if_neg c3, if_pos c4], by decide⟩
  by_cases c5 : e = 150
  · exact ⟨⟨#[114, 101, 115, 111, 117, 114, 99, 101]⟩, by rw [if_neg c0, if_neg c1, if_neg c2, if_neg c3, if_neg c4, if_pos c5], by rw [if_neg c0, if_neg c1, if_neg c2, if_neg c3, if_neg c4, if_pos c5], by decide⟩
  rw [if_neg c0, if_neg c1, if_neg c2, if_neg c3, if_neg c4, if_neg c5, if_neg c0, if_neg c1, if_neg c2, if_neg c3, if_neg c4, if_neg c5, itoa_is N h1 h2]
  simp only [Option.bind_some]
  have s0 : ((⟨#[101, 114, 114, 111, 114, 32]⟩ : ByteArray)).size = 6 := rfl
  have s2 : ((⟨(Lib.itoa e).toArray⟩ : ByteArray)).size = (Lib.itoa e).length := by rw [bs_size]
  by_cases c6 : e = -9223372036854775808
  · subst c6
    rw [if_pos rfl]
    have hl : (Lib.itoa (-9223372036854775808)).length = 20 := by rw [dmin]; rfl
    have hc : leI (((⟨#[101, 114, 114, 111, 114, 32]⟩ : ByteArray).size : Int) + (⟨(Lib.itoa (-9223372036854775808)).toArray⟩ : ByteArray).size) 9223372036854775807 = true := by
      rw [leI_eq, decide_eq_true_eq, s0, s2, hl]; omega
    rw [if_pos hc, dmin]
    exact ⟨_, rfl, by congr 1, by decide⟩
  · obtain ⟨a1, a2⟩ := num_is N hN (show -9223372036854775808 < e by omega) h2
    have hc : leI (((⟨#[101, 114, 114, 111, 114, 32]⟩ : ByteArray).size : Int) + (⟨(Lib.itoa e).toArray⟩ : ByteArray).size) 9223372036854775807 = true := by
      rw [leI_eq, decide_eq_true_eq, s0, s2]; omega
    rw [if_neg c6, a1]
    simp only [Option.bind_some]
    rw [if_pos hc]
    exact ⟨_, rfl, rfl, by rw [ByteArray.size_append, s0, s2]; omega⟩

theorem ex_size (s : ByteArray) (a : Int) (hs : s.size ≤ 2000) : (exA s a).size ≤ 5000 := by
  have hz := bs_size s
  have hp := ps_le s a
  have h := ex_le (L := bs s) (a := ps s a) (by omega)
  rw [bs_size, show bs (exA s a) = exL (bs s) (ps s a) (exF (bs s) (ps s a)) (exT (bs s) (ps s a)) from rfl, exL, List.length_append, List.length_cons, List.length_append, List.length_map, List.length_take, List.length_drop, List.length_replicate]
  simp only [List.length_singleton]
  omega

section
variable {N : Nat} {s : ByteArray} {a e : Int} {w : ByteArray}
theorem tell_both (hN : 100001 < N) (hs2 : s.size ≤ 2000) (w1 : place_word N e = some w) (w2 : bautaref29_Word N e = some w) (w3 : w.size ≤ 60) : ∃ t, place_Tell N s a e = some t ∧ bautaref29_Tell N s a e = some t := by
  have hp := ps_le s a
  have hst := st_le (L := bs s) (ps s a)
  have hcn := cn_le (L := bs s) (ps s a)
  have hx := ex_size s a hs2
  obtain ⟨l1, l2⟩ := num_is N (by omega) (n := (cn (bs s) (ps s a) : Int) + 1) (by omega) (by omega)
  obtain ⟨c1, c2⟩ := num_is N (by omega) (n := (ps s a : Int) - st (bs s) (ps s a) + 1) (by omega) (by omega)
  have i1 := itoa_is N (n := (cn (bs s) (ps s a) : Int) + 1) (by omega) (by omega)
  have i2 := itoa_is N (n := (ps s a : Int) - st (bs s) (ps s a) + 1) (by omega) (by omega)
  have o1 := of_is N s a (by omega)
  have x1 := excerpt_is N s a (by omega) (by omega)
  have o2 := refOf_is N s a (by omega) (by omega)
  have x2 := refEx_is N s a (by omega) (by omega)
  have z1 : ((⟨(Lib.itoa ((cn (bs s) (ps s a) : Int) + 1)).toArray⟩ : ByteArray)).size ≤ 40 := by rw [bs_size]; exact l2
  have z2 : ((⟨(Lib.itoa ((ps s a : Int) - st (bs s) (ps s a) + 1)).toArray⟩ : ByteArray)).size ≤ 40 := by rw [bs_size]; exact c2
  generalize (⟨(Lib.itoa ((cn (bs s) (ps s a) : Int) + 1)).toArray⟩ : ByteArray) = A at i1 l1 z1
  generalize (⟨(Lib.itoa ((ps s a : Int) - st (bs s) (ps s a) + 1)).toArray⟩ : ByteArray) = B at i2 c1 z2
  generalize exA s a = X at x1 x2 hx
  have cap : ∀ (x y : ByteArray) (n : Nat), x.size + y.size ≤ n → n ≤ 20000 → leI ((x.size : Int) + y.size) 9223372036854775807 = true ∧ (x ++ y).size ≤ n := fun x y n p q =>
    ⟨by rw [leI_eq, decide_eq_true_eq]; omega, by rw [ByteArray.size_append]; exact p⟩
  have k1 : ((⟨#[108, 105, 110, 101, 32]⟩ : ByteArray)).size ≤ 5 := Nat.le_refl _
  have k2 : ((⟨#[44, 32, 99, 111, 108, 117, 109, 110, 32]⟩ : ByteArray)).size ≤ 9 := Nat.le_refl _
  obtain ⟨t1, u1⟩ := cap _ A 45 (Nat.add_le_add k1 z1) (by omega)
  obtain ⟨t2, u2⟩ := cap _ _ 54 (Nat.add_le_add u1 k2) (by omega)
  obtain ⟨t3, u3⟩ := cap _ B 94 (Nat.add_le_add u2 z2) (by omega)
  obtain ⟨t4, u4⟩ := cap _ ⟨#[58, 32]⟩ 96 (Nat.add_le_add u3 (show ((⟨#[58, 32]⟩ : ByteArray)).size ≤ 2 from Nat.le_refl _)) (by omega)
  obtain ⟨t5, u5⟩ := cap _ w 156 (Nat.add_le_add u4 w3) (by omega)
  obtain ⟨t6, u6⟩ := cap _ ⟨#[10]⟩ 157 (Nat.add_le_add u5 (show ((⟨#[10]⟩ : ByteArray)).size ≤ 1 from Nat.le_refl _)) (by omega)
  obtain ⟨t7, u7⟩ := cap _ X 5157 (Nat.add_le_add u6 hx) (by omega)
  refine ⟨(⟨#[108, 105, 110, 101, 32]⟩ : ByteArray) ++ A ++ ⟨#[44, 32, 99, 111, 108, 117, 109, 110, 32]⟩ ++ B ++ ⟨#[58, 32]⟩ ++ w ++ ⟨#[10]⟩ ++ X, ?_, ?_⟩
  · unfold place_Tell place_Tell_T
    rw [run_call, o1, Option.bind_some, run_call]
    refine (congrArg (fun o : Option ByteArray => o.bind _) i1).trans ?_
    rw [Option.bind_some, run_br, if_pos t1, run_br, if_pos t2, run_call]
    refine (congrArg (fun o : Option ByteArray => o.bind _) i2).trans ?_
    rw [Option.bind_some, run_br, if_pos t3, run_br, if_pos t4, run_call, w1, Option.bind_some, run_br, if_pos t5, run_br, if_pos t6, run_call, x1, Option.bind_some, run_br, if_pos t7]
    rfl
  · unfold bautaref29_Tell bautaref29_Tell_T
    rw [run_call, o2, Option.bind_some, run_call]
    refine (congrArg (fun o : Option ByteArray => o.bind _) l1).trans ?_
    rw [Option.bind_some, run_br, if_pos t1, run_br, if_pos t2, run_call]
    refine (congrArg (fun o : Option ByteArray => o.bind _) c1).trans ?_
    rw [Option.bind_some, run_br, if_pos t3, run_br, if_pos t4, run_call, w2, Option.bind_some, run_br, if_pos t5, run_br, if_pos t6, run_call, x2, Option.bind_some, run_br, if_pos t7]
    rfl
end

theorem placeTells_N (N : Nat) (hN : 100001 < N) (s : ByteArray) (a e : Int) (h1 : -9223372036854775808 ≤ e) (h2 : e ≤ 9223372036854775807) : bautalaw29_PlaceTells N s a e = some true := by
  obtain ⟨s', hs1, hs2⟩ := short_is N s
  obtain ⟨w, w1, w2, w3⟩ := word_same N (by omega) h1 h2
  obtain ⟨t, ht, ht2⟩ := tell_both (a := a) hN hs2 w1 w2 w3
  unfold bautalaw29_PlaceTells bautalaw29_PlaceTells_T place_Word place_Word_T
  simp only [run_call, hs1, Option.bind_some, run_ret, w1, w2, ht, ht2, run_br, beq_self_eq_true, if_true, lives_holds N (show 100000 < N by omega)]

theorem placeTells_law (s : ByteArray) (_ : WF .str s) (a : Int) (_ : WF (.int .i64) a) (e : Int) (he : WF (.int .i64) e) : bautalaw29_PlaceTells 100002 s a e = some true := placeTells_N 100002 (by omega) s a e (wf_i64 he).1 (wf_i64 he).2
end Go.Proofs.YtklnpdnfjponpaaDoorV
