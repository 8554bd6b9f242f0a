/- The plain laws of chapter 29. -/
import Derived.Test.YtklnpdnfjponpaaDoorPPlaceD
namespace Go.Proofs.YtklnpdnfjponpaaDoorV
set_option linter.unusedVariables false
set_option linter.unusedSimpArgs false

theorem ln_at (s : ByteArray) {p : Nat} (h : p ≤ s.size) : ln s (cn (bs s) p) = s.extract (st (bs s) p) (en (bs s) p) := by
  have hz := bs_size s
  rw [ln, bg_cn (by omega), en_st (by omega)]

theorem exL_line (L : List UInt8) {a b c f t : Nat} (h1 : f ≤ t) (h2 : t ≤ b - a) : exL ((L.drop a).take (b - a)) c f t = exL L (a + c) (a + f) (a + t) := by
  unfold exL
  rw [List.drop_take, List.drop_drop, List.take_take, Nat.min_eq_left (by omega), show a + t - (a + f) = t - f by omega, show a + c - (a + f) = c - f by omega]

theorem refEx_is (N : Nat) (s : ByteArray) (a : Int) (hs : s.size ≤ 100000) (hN : 100000 < N) : bautaref29_Excerpt N s a = some (exA s a) := by
  have hz := bs_size s
  have hp := ps_le s a
  have h1 := st_le (L := bs s) (ps s a)
  have h2 := en_spec (L := bs s) (a := ps s a) (by omega)
  have hc := cn_mono (L := bs s) hp
  have hcl := cn_le (L := bs s) s.size
  have hln := ln_at s hp
  have hls : (s.extract (st (bs s) (ps s a)) (en (bs s) (ps s a))).size = en (bs s) (ps s a) - st (bs s) (ps s a) := by
    rw [bs_size, bs_extract, List.length_take, List.length_drop]; omega
  have key : ∀ f t : Nat, f ≤ t → t ≤ en (bs s) (ps s a) - st (bs s) (ps s a) → f ≤ ps s a - st (bs s) (ps s a) →
      bautaref29_Excerpt_j9 N ((ps s a : Int) - st (bs s) (ps s a) + 1) (s.extract (st (bs s) (ps s a)) (en (bs s) (ps s a))) f t = some ⟨(exL (bs s) (ps s a) (st (bs s) (ps s a) + f) (st (bs s) (ps s a) + t)).toArray⟩ := by
    intro f t q1 q2 q3
    have e : (ps s a : Int) - st (bs s) (ps s a) = ((ps s a - st (bs s) (ps s a) : Nat) : Int) := by omega
    rw [e, j9_is N _ q1 (by rw [hls]; exact q2) q3 (by omega) (by rw [hls]; omega) hN, bs_extract, exL_line _ q1 q2, show st (bs s) (ps s a) + (ps s a - st (bs s) (ps s a)) = ps s a by omega]
  have ew : IntKind.i64.wrap ((cn (bs s) (ps s a) : Int) + 1 - 1) = (cn (bs s) (ps s a) : Int) := by rw [i64_in (by omega)]; omega
  have ec : IntKind.i64.wrap ((ps s a : Int) - st (bs s) (ps s a) + 1 - 1) = (ps s a : Int) - st (bs s) (ps s a) := by rw [i64_in (by omega)]; omega
  simp only [bautaref29_Excerpt, bautaref29_Excerpt_T, run_call, run_br, run_ret, refOf_is N s a hs (by omega), lines_is N s hs (by omega), Option.bind_some, ew, ec, inRange_iff, lns_len, toNat_nat, lns_get s hc, hln, hls, ltI_eq, decide_eq_true_eq]
  rw [if_pos (by omega)]
  unfold exA exT exF
  by_cases w : 72 < en (bs s) (ps s a) - st (bs s) (ps s a)
  · rw [if_pos (by omega), if_pos w, if_pos w]
    by_cases w2 : 36 < ps s a - st (bs s) (ps s a)
    · rw [if_pos (by omega), i64_in (x := (ps s a : Int) - st (bs s) (ps s a) - 36) (by omega)]
      have ef : (ps s a : Int) - st (bs s) (ps s a) - 36 = ((ps s a - st (bs s) (ps s a) - 36 : Nat) : Int) := by omega
      rw [ef, i64_in (x := ((ps s a - st (bs s) (ps s a) - 36 : Nat) : Int) + 72) (by omega)]
      by_cases w3 : ps s a - st (bs s) (ps s a) - 36 + 72 < en (bs s) (ps s a) - st (bs s) (ps s a)
      · rw [if_pos (by omega), show ((ps s a - st (bs s) (ps s a) - 36 : Nat) : Int) + 72 = ((ps s a - st (bs s) (ps s a) - 36 + 72 : Nat) : Int) by omega, key _ _ (by omega) (by omega) (by omega)]
        rw [show st (bs s) (ps s a) + (ps s a - st (bs s) (ps s a) - 36) = max (st (bs s) (ps s a)) (ps s a - 36) by omega, show st (bs s) (ps s a) + (ps s a - st (bs s) (ps s a) - 36 + 72) = min (en (bs s) (ps s a)) (max (st (bs s) (ps s a)) (ps s a - 36) + 72) by omega]
        rfl
      · rw [if_neg (by omega), key _ _ (by omega) (by omega) (by omega)]
        rw [show st (bs s) (ps s a) + (ps s a - st (bs s) (ps s a) - 36) = max (st (bs s) (ps s a)) (ps s a - 36) by omega, show st (bs s) (ps s a) + (en (bs s) (ps s a) - st (bs s) (ps s a)) = min (en (bs s) (ps s a)) (max (st (bs s) (ps s a)) (ps s a - 36) + 72) by omega]
        rfl
    · rw [if_neg (by omega), if_pos (by omega)]
      have := key 0 72 (by omega) (by omega) (by omega)
      rw [show ((0 : Nat) : Int) = 0 from rfl, show ((72 : Nat) : Int) = 72 from rfl] at this
      rw [this, show st (bs s) (ps s a) + 0 = max (st (bs s) (ps s a)) (ps s a - 36) by omega, show st (bs s) (ps s a) + 72 = min (en (bs s) (ps s a)) (max (st (bs s) (ps s a)) (ps s a - 36) + 72) by omega]
      rfl
  · rw [if_neg (by omega), if_neg w, if_neg w]
    have := key 0 (en (bs s) (ps s a) - st (bs s) (ps s a)) (by omega) (by omega) (by omega)
    rw [show ((0 : Nat) : Int) = 0 from rfl] at this
    rw [this, show st (bs s) (ps s a) + 0 = st (bs s) (ps s a) by omega, show st (bs s) (ps s a) + (en (bs s) (ps s a) - st (bs s) (ps s a)) = en (bs s) (ps s a) by omega]
    rfl

/-- The text of the living example. -/
def sx : ByteArray := ⟨#[120, 32, 61, 32, 59]⟩

theorem itoa1 : Lib.itoa 1 = [49] := by rw [Lib.itoa, if_neg (by decide)]; show Lib.decDigits 1 = _; rw [Lib.decDigits_one (by decide)]; rfl
theorem itoa5 : Lib.itoa 5 = [53] := by rw [Lib.itoa, if_neg (by decide)]; show Lib.decDigits 5 = _; rw [Lib.decDigits_one (by decide)]; rfl

theorem lives_holds (N : Nat) (hN : 100000 < N) : bautalaw29_lives N = some true := by
  have h1 : ps sx 4 = 4 := rfl
  have h2 : cn (bs sx) 4 = 0 := rfl
  have h3 : st (bs sx) 4 = 0 := rfl
  have ho := of_is N sx 4 (by decide)
  rw [h1, h2, h3] at ho
  have he := excerpt_is N sx 4 (by decide) (show 5 < N by omega)
  have hx : exA sx 4 = ⟨#[120, 32, 61, 32, 59, 10, 32, 32, 32, 32, 94]⟩ := rfl
  rw [hx] at he
  have i1 : strconv_Itoa N 1 = some ⟨#[49]⟩ := by unfold strconv_Itoa; rw [if_pos (by omega), itoa1]
  have i5 : strconv_Itoa N 5 = some ⟨#[53]⟩ := by unfold strconv_Itoa; rw [if_pos (by omega), itoa5]
  have e1 : ((0 : Nat) : Int) + 1 = 1 := rfl
  have e5 : ((4 : Nat) : Int) - (0 : Nat) + 1 = 5 := rfl
  rw [e1, e5] at ho
  have ht : place_Tell N sx 4 100 = some ⟨#[108, 105, 110, 101, 32, 49, 44, 32, 99, 111, 108, 117, 109, 110, 32, 53, 58, 32, 115, 121, 110, 116, 97, 120, 10, 120, 32, 61, 32, 59, 10, 32, 32, 32, 32, 94]⟩ := by
    have hw : place_word N 100 = some (⟨#[115, 121, 110, 116, 97, 120]⟩ : ByteArray) := rfl
    simp only [place_Tell, place_Tell_T, run_call, ho, i1, i5, he, hw, Option.bind_some]
    rfl
  have : bautalaw29_lives N = (place_Tell N sx 4 100).bind fun y => some (y.toList == (⟨#[108, 105, 110, 101, 32, 49, 44, 32, 99, 111, 108, 117, 109, 110, 32, 53, 58, 32, 115, 121, 110, 116, 97, 120, 10, 120, 32, 61, 32, 59, 10, 32, 32, 32, 32, 94]⟩ : ByteArray).toList) := rfl
  rw [this, ht]
  simp only [Option.bind_some, beq_self_eq_true]

theorem atS_of (s : ByteArray) {p : Nat} (hp : p ≤ s.size) : atS s ((cn (bs s) p : Int) + 1) ((p : Int) - st (bs s) p + 1) = ((p : Int), true) := by
  have hz := bs_size s
  have h1 := st_le (L := bs s) p
  have h2 := en_spec (L := bs s) (a := p) (by omega)
  have hc := cn_mono (L := bs s) hp
  have e : ((cn (bs s) p : Int) + 1).toNat - 1 = cn (bs s) p := by omega
  have hb : bg (bs s) (cn (bs s) p) = st (bs s) p := bg_cn (by omega)
  have hl : ll s (cn (bs s) p) = en (bs s) p - st (bs s) p := by unfold ll; rw [hb, en_st (by omega)]
  unfold atS
  rw [e, hl, hb, if_pos (by omega)]
  congr 1
  omega

theorem placeOf_N (N : Nat) (hN : 100001 < N) (s : ByteArray) (a : Int) : bautalaw29_PlaceOf N s a = some true := by
  obtain ⟨s', hs1, hs2⟩ := short_is N s
  have hp := ps_le s' a
  have h1 := st_le (L := bs s') (ps s' a)
  have hA := at_is N s' ((cn (bs s') (ps s' a) : Int) + 1) ((ps s' a : Int) - st (bs s') (ps s' a) + 1) (by omega) (by omega) (by omega)
  rw [atS_of s' hp] at hA
  simp only [bautalaw29_PlaceOf, bautalaw29_PlaceOf_T, bautalaw29_PlaceOf_j6, bautalaw29_PlaceOf_j6_T, run_call, hs1, Option.bind_some, place_Of, place_Of_T, of_is N s' a (by omega), refOf_is N s' a (by omega) (by omega), run_ret, run_br, bne_iffI, ne_eq, not_true_eq_false, if_false, hA, ltI_eq, decide_eq_true_eq, beq_iffI, lives_holds N (by omega), if_true]
  unfold ps at *
  by_cases c1 : a < 0
  · simp [c1]
  · by_cases c2 : (s'.size : Int) < a
    · simp only [if_neg c1, if_pos c2, if_true]
      rw [if_neg (by omega)]
      rfl
    · simp only [if_neg c1, if_neg c2]
      rw [if_pos (by omega)]
      rfl

theorem placeExcerpts_N (N : Nat) (hN : 100001 < N) (s : ByteArray) (a : Int) : bautalaw29_PlaceExcerpts N s a = some true := by
  obtain ⟨s', hs1, hs2⟩ := short_is N s
  simp only [bautalaw29_PlaceExcerpts, bautalaw29_PlaceExcerpts_T, run_call, hs1, Option.bind_some, place_Excerpt, place_Excerpt_T, excerpt_is N s' a (by omega) (by omega), refEx_is N s' a (by omega) (by omega), run_ret, run_br, beq_self_eq_true, if_true, lives_holds N (by omega)]

theorem placeAt_N (N : Nat) (hN : 100001 < N) (s : ByteArray) (line col : Int) (hc : col ≤ 9223372036854775807) : bautalaw29_PlaceAt N s line col = some true := by
  obtain ⟨s', hs1, hs2⟩ := short_is N s
  have hT := cn_le (L := bs s') s'.size
  simp only [bautalaw29_PlaceAt, bautalaw29_PlaceAt_T, run_call, hs1, Option.bind_some, at_is N s' line col (by omega) (by omega) hc, refAt_is N s' line col (by omega) (by omega) hc, lines_is N s' (by omega) (by omega), line_is N s' line (by omega) (by omega), run_br, ltI_eq, decide_eq_true_eq, lns_len]
  by_cases h1 : line < 1
  · have e : atS s' line col = (0, false) := by unfold atS; rw [if_neg (by omega)]
    have e2 : ¬ (1 ≤ line ∧ line ≤ cn (bs s') s'.size + 1) := by omega
    simp only [if_pos h1, e, if_neg e2, bautalaw29_PlaceAt_j7, bautalaw29_PlaceAt_j7_T, run_br, run_call, run_ret, if_true, Bool.not_false, lives_holds N (by omega), Option.bind_some, beq_self_eq_true, run_inl]
  · by_cases h2 : ((cn (bs s') s'.size + 1 : Nat) : Int) < line
    · have e : atS s' line col = (0, false) := by unfold atS; rw [if_neg (by omega)]
      have e2 : ¬ (1 ≤ line ∧ line ≤ cn (bs s') s'.size + 1) := by omega
      simp only [if_neg h1, decide_eq_true h2, e, if_neg e2, bautalaw29_PlaceAt_j7, bautalaw29_PlaceAt_j7_T, run_br, run_call, run_ret, if_true, Bool.not_false, lives_holds N (by omega), Option.bind_some, beq_self_eq_true, run_inl]
    · have e2 : 1 ≤ line ∧ line ≤ cn (bs s') s'.size + 1 := by omega
      have ew : IntKind.i64.wrap (line - 1) = ((line.toNat - 1 : Nat) : Int) := by rw [i64_in (by omega)]; omega
      have hg := lns_get s' (show line.toNat - 1 ≤ cn (bs s') s'.size by omega)
      have hr : 0 ≤ ((line.toNat - 1 : Nat) : Int) ∧ ((line.toNat - 1 : Nat) : Int) < ((cn (bs s') s'.size + 1 : Nat) : Int) := by omega
      simp only [if_neg h1, decide_eq_false h2, if_pos e2, bautalaw29_PlaceAt_j7, bautalaw29_PlaceAt_j7_T, bautalaw29_PlaceAt_j8, bautalaw29_PlaceAt_j8_T, run_br, run_call, run_ret, Bool.false_eq_true, if_false, if_true, run_inr, Option.bind_some, beq_self_eq_true, ew, inRange_iff, lns_len, if_pos hr, toNat_nat, hg, lives_holds N (by omega)]

/-- A text of two lines. -/
theorem two_lines {x : ByteArray} {P Q : List UInt8} (hx : bs x = P ++ 10 :: Q) (hP : ∀ b ∈ P, b ≠ 10) (hQ : ∀ b ∈ Q, b ≠ 10) : ∃ u v, lns x = [u, v] ∧ bs u = P ∧ bs v = Q := by
  have hz := bs_size x
  have hl : (bs x).length = P.length + 1 + Q.length := by rw [hx, List.length_append, List.length_cons]; omega
  have gP : ∀ i, i < P.length → (bs x).getD i 0 ≠ 10 := by
    intro i hi
    rw [hx, getD_left _ _ _ hi, getD_nat _ _ _ hi]
    exact hP _ (List.getElem_mem hi)
  have gM : (bs x).getD P.length 0 = 10 := by rw [hx, mid_get _ _ _ _ rfl]
  have gQ : ∀ i, P.length + 1 ≤ i → i < P.length + 1 + Q.length → (bs x).getD i 0 ≠ 10 := by
    intro i h1 h2
    have h3 : i - (P.length + 1) < Q.length := by omega
    have e : (bs x).getD i 0 = Q[i - (P.length + 1)] := by
      rw [getD_nat _ _ _ (by omega)]
      simp only [hx]
      rw [List.getElem_append_right (by omega), List.getElem_cons, dif_neg (by omega)]
      congr 1
    rw [e]
    exact hQ _ (List.getElem_mem h3)
  have e0 : en (bs x) 0 = P.length := en_eq (Nat.zero_le _) (by omega) (fun i _ h => gP i h) (fun _ => gM)
  have e1 : en (bs x) (P.length + 1) = P.length + 1 + Q.length := en_eq (by omega) (by omega) gQ (fun h => by omega)
  have c0 := (cn_free (L := bs x) (Nat.zero_le P.length) (fun i _ h => gP i h)).1
  have c1 : cn (bs x) (P.length + 1) = 1 := by rw [cn, if_pos gM, c0]; rfl
  have c2 : cn (bs x) x.size = 1 := by
    rw [hz, hl]
    rw [(cn_free (L := bs x) (show P.length + 1 ≤ P.length + 1 + Q.length by omega) gQ).1, c1]
  have b1 : bg (bs x) 1 = P.length + 1 := by rw [bg, bg, e0]
  refine ⟨ln x 0, ln x 1, by rw [lns, c2]; rfl, ?_, ?_⟩
  · rw [ln, bg, e0, bs_extract, hx]
    simp
  · rw [ln, b1, e1, bs_extract, hx]
    simp

theorem plU_ne (b : UInt8) : plU b ≠ 10 := by
  unfold plU
  split
  · decide
  · rename_i h
    intro e
    subst e
    exact h (.inl (by decide))

theorem wide_bAt (x : ByteArray) (i : Nat) (h : i < x.size) : bAt x i = (((bs x)[i]'(by rw [← bs_size]; exact h)).toNat : Int) := by
  have : i < (bs x).length := by rw [← bs_size]; exact h
  unfold bAt
  rw [show x.data.toList = bs x from rfl, getD_nat _ _ _ this]

theorem placeWide_N (N : Nat) (hN : 100001 < N) (s : ByteArray) (a : Int) : bautalaw29_PlaceWide N s a = some true := by
  obtain ⟨s', hs1, hs2⟩ := short_is N s
  have hz := bs_size s'
  have hp := ps_le s' a
  obtain ⟨h1, h2, h3, h4, h5⟩ := ex_le (L := bs s') (a := ps s' a) (by omega)
  have hen := en_spec (L := bs s') (a := ps s' a) (by omega)
  have hst := st_le (L := bs s') (ps s' a)
  obtain ⟨u, v, hl, hu, hv⟩ := two_lines (x := exA s' a) (P := (((bs s').drop (exF (bs s') (ps s' a))).take (exT (bs s') (ps s' a) - exF (bs s') (ps s' a))).map plU) (Q := List.replicate (ps s' a - exF (bs s') (ps s' a)) 32 ++ [94]) rfl
    (fun b hb => by
      obtain ⟨c, _, rfl⟩ := List.mem_map.1 hb
      exact plU_ne c)
    (fun b hb => by
      rcases List.mem_append.1 hb with hb | hb
      · rw [(List.mem_replicate.1 hb).2]; decide
      · simp at hb; rw [hb]; decide)
  have hus : u.size = exT (bs s') (ps s' a) - exF (bs s') (ps s' a) := by rw [bs_size, hu, List.length_map, List.length_take, List.length_drop]; omega
  have hvs : v.size = ps s' a - exF (bs s') (ps s' a) + 1 := by rw [bs_size, hv, List.length_append, List.length_replicate]; rfl
  have hes : (exA s' a).size ≤ 1000 + 2000 := by
    rw [bs_size, show bs (exA s' a) = exL (bs s') (ps s' a) (exF (bs s') (ps s' a)) (exT (bs s') (ps s' a)) from rfl, exL, List.length_append, List.length_cons, List.length_append, List.length_map, List.length_take, List.length_drop, List.length_replicate]
    simp only [List.length_singleton]
    omega
  have hlast : bAt v (ps s' a - exF (bs s') (ps s' a)) = 94 := by
    rw [wide_bAt v _ (by omega)]
    simp only [hv]
    rw [List.getElem_append_right (by simp)]
    simp
  have g0 : [u, v].getD 0 ByteArray.empty = u := rfl
  have g1 : [u, v].getD 1 ByteArray.empty = v := rfl
  have t0 : Int.toNat 0 = 0 := rfl
  have t1 : Int.toNat 1 = 1 := rfl
  have r0 : (0 : Int) ≤ 0 ∧ (0 : Int) < ([u, v].length : Nat) := by simp
  have r1 : (0 : Int) ≤ 1 ∧ (1 : Int) < ([u, v].length : Nat) := by simp
  have j11 : bautalaw29_PlaceWide_j11 N [u, v] = some true := by
    have ew : IntKind.i64.wrap ((v.size : Int) - 1) = ((ps s' a - exF (bs s') (ps s' a) : Nat) : Int) := by rw [i64_in (by omega)]; omega
    have rv : (0 : Int) ≤ ((ps s' a - exF (bs s') (ps s' a) : Nat) : Int) ∧ ((ps s' a - exF (bs s') (ps s' a) : Nat) : Int) < v.size := by omega
    simp only [bautalaw29_PlaceWide_j11, bautalaw29_PlaceWide_j11_T, run_br, run_call, run_ret, inRange_iff, if_pos r1, t1, g1, ew, if_pos rv, toNat_nat, hlast, beq_self_eq_true, if_true, lives_holds N (by omega), Option.bind_some]
  have j9 : ∀ n : Nat, (n < s'.size → ps s' a = n) → bautalaw29_PlaceWide_j9 N s' n [u, v] = some true := by
    intro n hn
    simp only [bautalaw29_PlaceWide_j9, bautalaw29_PlaceWide_j9_T, run_br, run_call, run_ret, inRange_iff, if_pos r1, if_pos r0, t1, t0, g1, g0, toNat_nat, j11, Option.bind_some, ltI_eq, decide_eq_true_eq, bne_iffI]
    by_cases c1 : n < s'.size
    · have e := hn c1
      rw [if_pos (by omega), if_pos (by omega)]
      by_cases c2 : 31 < bAt s' n
      · rw [if_pos c2, if_pos (by omega)]
        by_cases c3 : bAt s' n < 127
        · rw [if_pos c3]
          have hb : bAt s' n = (((bs s')[n]'(by omega)).toNat : Int) := wide_bAt s' n c1
          have hne : (bs s').getD n 0 ≠ 10 := by
            intro e10
            rw [← bAt_10] at e10
            omega
          have hlt : n < en (bs s') n := by
            rcases Nat.lt_or_ge n (en (bs s') n) with h | h
            · exact h
            · rw [e] at hen
              have he : en (bs s') n = n := by omega
              have := hen.2.2.2 (by omega)
              rw [he] at this
              exact absurd this hne
          have hT : n < exT (bs s') (ps s' a) := by
            rw [← e] at hlt ⊢
            have hF : ps s' a < exF (bs s') (ps s' a) + 72 := by unfold exF; split <;> omega
            unfold exT
            split <;> omega
          have ew : IntKind.i64.wrap ((v.size : Int) - 1) = ((ps s' a - exF (bs s') (ps s' a) : Nat) : Int) := by rw [i64_in (by omega)]; omega
          have hsame : bAt u (ps s' a - exF (bs s') (ps s' a)) = bAt s' n := by
            rw [wide_bAt u _ (by omega), hb]
            simp only [hu, List.getElem_map, List.getElem_take, List.getElem_drop]
            have ei : exF (bs s') (ps s' a) + (ps s' a - exF (bs s') (ps s' a)) = n := by omega
            simp only [ei]
            unfold plU
            rw [if_neg (by omega)]
          rw [if_neg (by omega)]
          simp only [ew, toNat_nat, hsame]
          rw [if_pos (by omega), if_pos (by omega), if_neg (by simp)]
        · rw [if_neg c3]
      · rw [if_neg c2]
    · rw [if_neg (by omega)]
  have j6 : bautalaw29_PlaceWide_j6 N s' a [u, v] = some true := by
    simp only [bautalaw29_PlaceWide_j6, bautalaw29_PlaceWide_j6_T, run_br, run_call, run_ret, ltI_eq, decide_eq_true_eq]
    by_cases c : a < 0
    · have := j9 0 (fun _ => by unfold ps; rw [if_pos c])
      rw [if_pos c]
      rw [show ((0 : Nat) : Int) = 0 from rfl] at this
      rw [this]; rfl
    · have := j9 a.toNat (fun h => by unfold ps; rw [if_neg c, if_neg (by omega)])
      rw [show ((a.toNat : Nat) : Int) = a by omega] at this
      rw [if_neg c, this]; rfl
  have r2 : ([u, v].length : Int) = 2 := rfl
  have r3 : (0 : Int) ≤ 0 ∧ (0 : Int) < 2 := by omega
  have r4 : (0 : Int) ≤ 1 ∧ (1 : Int) < 2 := by omega
  have ew : IntKind.i64.wrap ((u.size : Int) + 1) = (u.size : Int) + 1 := i64_in (by omega)
  simp only [bautalaw29_PlaceWide, bautalaw29_PlaceWide_T, run_call, hs1, Option.bind_some, place_Excerpt, place_Excerpt_T, excerpt_is N s' a (by omega) (by omega), run_ret, lines_is N (exA s' a) (by omega) (by omega), hl, run_br, inRange_iff, r2, if_pos r3, if_pos r4, t0, t1, g0, g1, ew, j6, ltI_eq, decide_eq_true_eq, beq_iffI, bne_iffI]
  rw [if_neg (by omega), if_neg (by omega), if_neg (by omega), if_neg (by omega)]

theorem wf_i64 {x : Int} (h : WF (.int .i64) x) : -9223372036854775808 ≤ x ∧ x ≤ 9223372036854775807 := by
  have : (Lit.int .i64 x).wf = true := h
  simp [Lit.wf] at this
  exact this
theorem placeOf_law (s : ByteArray) (_ : WF .str s) (a : Int) (_ : WF (.int .i64) a) : bautalaw29_PlaceOf 100002 s a = some true := placeOf_N 100002 (by omega) s a
theorem placeExcerpts_law (s : ByteArray) (_ : WF .str s) (a : Int) (_ : WF (.int .i64) a) : bautalaw29_PlaceExcerpts 100002 s a = some true := placeExcerpts_N 100002 (by omega) s a
theorem placeWide_law (s : ByteArray) (_ : WF .str s) (a : Int) (_ : WF (.int .i64) a) : bautalaw29_PlaceWide 100002 s a = some true := placeWide_N 100002 (by omega) s a
theorem placeAt_law (s : ByteArray) (_ : WF .str s) (line : Int) (_ : WF (.int .i64) line) (col : Int) (hc : WF (.int .i64) col) : bautalaw29_PlaceAt 100002 s line col = some true := placeAt_N 100002 (by omega) s line col (wf_i64 hc).2
end Go.Proofs.YtklnpdnfjponpaaDoorV
