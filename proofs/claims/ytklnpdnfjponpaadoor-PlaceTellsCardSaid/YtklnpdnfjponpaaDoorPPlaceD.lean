/- Excerpts, of place and of the reference. -/
import Derived.Test.YtklnpdnfjponpaaDoorPPlaceC
namespace Go.Proofs.YtklnpdnfjponpaaDoorV
set_option linter.unusedVariables false
set_option linter.unusedSimpArgs false

/-- A byte as it is shown. -/
def plU (b : UInt8) : UInt8 := if b.toNat < 32 ∨ 126 < b.toNat then 32 else b
def plI (x : Int) : Int := if x < 32 then 32 else if 126 < x then 32 else x
theorem pl_is (b : UInt8) : UInt8.ofNat (plI (b.toNat : Int)).toNat = plU b := by
  unfold plI plU
  split
  · rw [if_pos (by omega)]; rfl
  · split
    · rw [if_pos (by omega)]; rfl
    · rw [if_neg (by omega)]; simp
theorem bs_bytes (l : List Int) : bs (bytesS l) = l.map fun n => UInt8.ofNat n.toNat := rfl
theorem sB_is (s : ByteArray) : sBytes s = (bs s).map fun b => (b.toNat : Int) := rfl
theorem plain_bs (s : ByteArray) : bs (bytesS ((sBytes s).map plI)) = (bs s).map plU := by
  rw [bs_bytes, sB_is, List.map_map, List.map_map]
  exact List.map_congr_left fun b _ => pl_is b
theorem sB_len (s : ByteArray) : (sBytes s).length = s.size := by rw [sB_is, List.length_map, bs_size]

/-- i bytes on. -/
def half (xs : List Int) (i : Nat) : List Int := (xs.take i).map plI ++ xs.drop i
theorem half_len (xs : List Int) (i : Nat) : (half xs i).length = xs.length := by simp only [half, List.length_append, List.length_map, List.length_take, List.length_drop]; omega
theorem half_get (xs : List Int) {i : Nat} (h : i < xs.length) : (half xs i).getD i 0 = xs[i] := by
  rw [half, drop_cons xs h, mid_get _ _ _ _ (by rw [List.length_map, List.length_take]; omega)]
theorem half_set (xs : List Int) {i : Nat} (h : i < xs.length) {y : Int} (hy : y = plI xs[i]) : (half xs i).set i y = half xs (i + 1) := by
  rw [half, drop_cons xs h, mid_set _ _ _ _ (by rw [List.length_map, List.length_take]; omega), half, take_snoc xs h, List.map_append, hy]
  simp
theorem half_keep (xs : List Int) {i : Nat} (h : i < xs.length) (hy : xs[i] = plI xs[i]) : half xs i = half xs (i + 1) := by
  rw [← half_set xs h hy]
  apply List.ext_getElem (by simp)
  intro j h1 h2
  rw [List.getElem_set]
  split
  · rename_i e
    subst e
    have := half_get xs h
    rw [getD_nat _ _ _ h1] at this
    exact this
  · rfl
theorem half_all (xs : List Int) : half xs xs.length = xs.map plI := by rw [half, List.take_length, List.drop_length, List.append_nil]

theorem plain_loop (N : Nat) (xs : List Int) (hx : xs.length ≤ 100000) (hN : xs.length < N) : place_plain_l3 N (xs.length : Int) (0, xs) = some (xs.map plI) := by
  unfold place_plain_l3
  have := loop_up (s := fun v => place_plain_l3_T N (xs.length : Int) v.1 v.2) (fun i : Nat => ((i : Int), half xs i)) xs.length (xs.map plI) (k := 0) (m := N) (by omega) (by omega) (fun i _ hi => ?_) ?_
  · exact this
  · have h1 : (i : Int) < xs.length := by omega
    have h3 : (0 : Int) ≤ i ∧ (i : Int) < xs.length := by omega
    simp only [place_plain_l3_T, run_br, run_ret, ltI_eq, decide_eq_true_eq, if_pos h1, inRange_iff, half_len, if_pos h3, toNat_nat, half_get xs hi, i64_succ (i := i) (by omega)]
    by_cases c1 : xs[i] < 32
    · rw [if_pos c1, half_set xs hi (by rw [plI, if_pos c1])]
    · rw [if_neg c1]
      by_cases c2 : 126 < xs[i]
      · rw [if_pos c2, half_set xs hi (by rw [plI, if_neg c1, if_pos c2])]
      · rw [if_neg c2, half_keep xs hi (by rw [plI, if_neg c1, if_neg c2])]
  · have : ¬ ((xs.length : Int) < xs.length) := by omega
    simp only [place_plain_l3_T, run_br, run_ret, ltI_eq, decide_eq_true_eq, if_neg this, half_all]

theorem ref_loop (N : Nat) (xs : List Int) (hx : xs.length ≤ 100000) (hN : xs.length < N) : bautaref29_Excerpt_l11 N (0, xs) = some (xs.map plI) := by
  unfold bautaref29_Excerpt_l11
  have := loop_up (s := fun v => bautaref29_Excerpt_l11_T N v.1 v.2) (fun i : Nat => ((i : Int), half xs i)) xs.length (xs.map plI) (k := 0) (m := N) (by omega) (by omega) (fun i _ hi => ?_) ?_
  · exact this
  · have h1 : (i : Int) < xs.length := by omega
    have h3 : (0 : Int) ≤ i ∧ (i : Int) < xs.length := by omega
    simp only [bautaref29_Excerpt_l11_T, run_br, run_ret, ltI_eq, decide_eq_true_eq, inRange_iff, half_len, if_pos h1, if_pos h3, toNat_nat, half_get xs hi, i64_succ (i := i) (by omega)]
    by_cases c1 : xs[i] < 32
    · rw [if_pos c1, half_set xs hi (by rw [plI, if_pos c1])]
    · rw [if_neg c1]
      by_cases c2 : 126 < xs[i]
      · rw [if_pos c2, half_set xs hi (by rw [plI, if_neg c1, if_pos c2])]
      · rw [if_neg c2, half_keep xs hi (by rw [plI, if_neg c1, if_neg c2])]
  · have : ¬ ((xs.length : Int) < xs.length) := by omega
    simp only [bautaref29_Excerpt_l11_T, run_br, run_ret, ltI_eq, decide_eq_true_eq, half_len, half_all, List.length_map, if_neg this]

theorem plain_is (N : Nat) (s : ByteArray) (hs : s.size ≤ 100000) (hN : s.size < N) : place_plain N s = some (bytesS ((sBytes s).map plI)) := by
  have hcap : ltI (s.size : Int) 140737488355328 = true := by rw [ltI_eq, decide_eq_true_eq]; omega
  have hl := plain_loop N (sBytes s) (by rw [sB_len]; exact hs) (by rw [sB_len]; exact hN)
  simp only [place_plain, place_plain_T, run_br, run_call, run_ret, hcap, if_true, hl, Option.bind_some]

/-- Bytes from f to t, as they are shown, and the place a below them. -/
def exL (L : List UInt8) (a f t : Nat) : List UInt8 := ((L.drop f).take (t - f)).map plU ++ 10 :: (List.replicate (a - f) 32 ++ [94])

theorem rep_is (k : Nat) : Lib.repeatL [32] k = List.replicate k 32 := by
  induction k with
  | zero => rfl
  | succ k ih => rw [Lib.repeatL, ih, List.replicate_succ]; rfl

theorem mkB (l : List UInt8) : bs ⟨l.toArray⟩ = l := rfl

theorem j6_is (N : Nat) (s : ByteArray) {a f t : Nat} (h1 : f ≤ t) (h2 : t ≤ s.size) (h3 : f ≤ a) (h4 : a ≤ s.size) (hs : s.size ≤ 100000) (hN : s.size < N) :
    place_excerpt_j6 N s a f t = some ⟨(exL (bs s) a f t).toArray⟩ := by
  have c1 : (0 : Int) ≤ f ∧ ((f : Int) ≤ t ∧ (t : Int) ≤ s.size) := by omega
  have hsz : (s.extract f t).size = t - f := by
    have := bs_size s
    rw [bs_size, bs_extract, List.length_take, List.length_drop]; omega
  have hp := plain_is N (s.extract f t) (by omega) (by omega)
  have e1 : IntKind.i64.wrap ((a : Int) - f) = ((a - f : Nat) : Int) := by rw [i64_in (by omega)]; omega
  have hr : strings_Repeat N (⟨#[32]⟩ : ByteArray) ((a - f : Nat) : Int) = some ⟨(List.replicate (a - f) 32).toArray⟩ := by
    unfold strings_Repeat
    rw [if_pos ⟨by omega, by omega, by rw [toNat_nat]; show 1 * (a - f) ≤ _; omega⟩, toNat_nat]
    show some (⟨(Lib.repeatL [32] (a - f)).toArray⟩ : ByteArray) = _
    rw [rep_is]
  have hb := plain_bs (s.extract f t)
  have hpl : (bytesS ((sBytes (s.extract f t)).map plI)).size = t - f := by rw [bs_size, hb, List.length_map, ← bs_size, hsz]
  have s1 : ((⟨#[10]⟩ : ByteArray)).size = 1 := rfl
  have s2 : ((⟨#[94]⟩ : ByteArray)).size = 1 := rfl
  have s3 : (⟨(List.replicate (a - f) (32 : UInt8)).toArray⟩ : ByteArray).size = a - f := by rw [bs_size, mkB, List.length_replicate]
  have d1 : leI (((bytesS ((sBytes (s.extract f t)).map plI)).size : Int) + (⟨#[10]⟩ : ByteArray).size) 9223372036854775807 = true := by rw [leI_eq, decide_eq_true_eq, hpl, s1]; omega
  have z1 : (bytesS ((sBytes (s.extract f t)).map plI) ++ (⟨#[10]⟩ : ByteArray)).size = t - f + 1 := by rw [ByteArray.size_append, hpl, s1]
  have d2 : leI (((bytesS ((sBytes (s.extract f t)).map plI) ++ (⟨#[10]⟩ : ByteArray)).size : Int) + (⟨(List.replicate (a - f) (32 : UInt8)).toArray⟩ : ByteArray).size) 9223372036854775807 = true := by rw [leI_eq, decide_eq_true_eq, z1, s3]; omega
  have z2 : (bytesS ((sBytes (s.extract f t)).map plI) ++ (⟨#[10]⟩ : ByteArray) ++ (⟨(List.replicate (a - f) (32 : UInt8)).toArray⟩ : ByteArray)).size = t - f + 1 + (a - f) := by rw [ByteArray.size_append, z1, s3]
  have d3 : leI (((bytesS ((sBytes (s.extract f t)).map plI) ++ (⟨#[10]⟩ : ByteArray) ++ (⟨(List.replicate (a - f) (32 : UInt8)).toArray⟩ : ByteArray)).size : Int) + (⟨#[94]⟩ : ByteArray).size) 9223372036854775807 = true := by rw [leI_eq, decide_eq_true_eq, z2, s2]; omega
  simp only [place_excerpt_j6, place_excerpt_j6_T, run_br, run_call, run_ret, toNat_nat, hp, Option.bind_some, e1, hr, d1, d2, d3, if_true]
  simp only [leI_eq, Bool.and_eq_true, decide_eq_true_eq, if_pos c1, Option.some.injEq]
  apply bs_ext
  rw [bs_append, bs_append, bs_append, hb]
  show (bs (s.extract f t)).map plU ++ [10] ++ List.replicate (a - f) 32 ++ [94] = exL (bs s) a f t
  rw [bs_extract, exL]
  simp

/-- Where an excerpt begins and ends. -/
def exF (L : List UInt8) (a : Nat) : Nat := if 72 < en L a - st L a then max (st L a) (a - 36) else st L a
def exT (L : List UInt8) (a : Nat) : Nat := if 72 < en L a - st L a then min (en L a) (exF L a + 72) else en L a
def exA (s : ByteArray) (a : Int) : ByteArray := ⟨(exL (bs s) (ps s a) (exF (bs s) (ps s a)) (exT (bs s) (ps s a))).toArray⟩
theorem ex_le {L : List UInt8} {a : Nat} (h : a ≤ L.length) : st L a ≤ exF L a ∧ exF L a ≤ a ∧ a ≤ exT L a ∧ exT L a ≤ en L a ∧ exT L a ≤ exF L a + 72 := by
  have h1 := st_le (L := L) a
  have h2 := en_spec h
  unfold exT exF
  split <;> omega

theorem excerpt_is (N : Nat) (s : ByteArray) (a : Int) (hs : s.size ≤ 100000) (hN : s.size < N) : place_excerpt N s a = some (exA s a) := by
  have hz := bs_size s
  have hp := ps_le s a
  have h1 := st_le (L := bs s) (ps s a)
  have h2 := en_spec (L := bs s) (a := ps s a) (by omega)
  have h3 := ex_le (L := bs s) (a := ps s a) (by omega)
  simp only [place_excerpt, place_excerpt_T, run_call, inside_is, Option.bind_some, start_is N s hp hs, end_is N s hp hs, run_br, ltI_eq, decide_eq_true_eq, run_ret]
  rw [i64_in (x := (en (bs s) (ps s a) : Int) - st (bs s) (ps s a)) (by omega), i64_in (x := (ps s a : Int) - 36) (by omega)]
  unfold exA
  by_cases hw : 72 < en (bs s) (ps s a) - st (bs s) (ps s a)
  · rw [if_pos (by omega)]
    have e1 : (if (ps s a : Int) - 36 > st (bs s) (ps s a) then (ps s a : Int) - 36 else st (bs s) (ps s a)) = (exF (bs s) (ps s a) : Int) := by
      unfold exF; rw [if_pos hw]; split <;> omega
    rw [e1, i64_in (x := (exF (bs s) (ps s a) : Int) + 72) (by omega)]
    have e2 : (if (exF (bs s) (ps s a) : Int) + 72 < en (bs s) (ps s a) then (exF (bs s) (ps s a) : Int) + 72 else en (bs s) (ps s a)) = (exT (bs s) (ps s a) : Int) := by
      unfold exT; rw [if_pos hw]; split <;> omega
    rw [e2, j6_is N s (by omega) (by omega) (by omega) hp hs hN]
    rfl
  · rw [if_neg (by omega)]
    have e1 : exF (bs s) (ps s a) = st (bs s) (ps s a) := by unfold exF; rw [if_neg hw]
    have e2 : exT (bs s) (ps s a) = en (bs s) (ps s a) := by unfold exT; rw [if_neg hw]
    rw [j6_is N s (by omega) (by omega) (by omega) hp hs hN, e1, e2]
    rfl

/-- The reference's: a line's bytes from f to t. -/
theorem j9_is (N : Nat) (l : ByteArray) {c f t : Nat} (h1 : f ≤ t) (h2 : t ≤ l.size) (h3 : f ≤ c) (h4 : c ≤ 100000) (hs : l.size ≤ 100000) (hN : 100000 < N) :
    bautaref29_Excerpt_j9 N ((c : Int) + 1) l f t = some ⟨(exL (bs l) c f t).toArray⟩ := by
  have c1 : (0 : Int) ≤ f ∧ ((f : Int) ≤ t ∧ (t : Int) ≤ l.size) := by omega
  have hsz : (l.extract f t).size = t - f := by
    have := bs_size l
    rw [bs_size, bs_extract, List.length_take, List.length_drop]; omega
  have d0 : ltI ((l.extract f t).size : Int) 140737488355328 = true := by rw [ltI_eq, decide_eq_true_eq, hsz]; omega
  have hl := ref_loop N (sBytes (l.extract f t)) (by rw [sB_len]; omega) (by rw [sB_len]; omega)
  have hM : ((sBytes (l.extract f t)).map plI).length = t - f := by rw [List.length_map, sB_len, hsz]
  have d1 : ltI (((((sBytes (l.extract f t)).map plI).length : Int) + 1) * 1) 140737488355328 = true := by rw [ltI_eq, decide_eq_true_eq, hM]; omega
  have ew : IntKind.i64.wrap ((c : Int) + 1 - 1) = c := by rw [i64_in (by omega)]; omega
  have h17 : bautaref29_Excerpt_l17 N ((c : Int) + 1) ((f : Int), (sBytes (l.extract f t)).map plI ++ [10]) = some ((sBytes (l.extract f t)).map plI ++ [10] ++ List.replicate (c - f) 32) := by
    unfold bautaref29_Excerpt_l17
    have := loop_up (s := fun v => bautaref29_Excerpt_l17_T N ((c : Int) + 1) v.1 v.2) (fun i : Nat => ((f + i : Nat), (sBytes (l.extract f t)).map plI ++ [10] ++ List.replicate i 32)) (c - f) ((sBytes (l.extract f t)).map plI ++ [10] ++ List.replicate (c - f) 32) (k := 0) (m := N) (by omega) (by omega) (fun i _ hi => ?_) ?_
    · simpa using this
    · have hi1 : ((f + i : Nat) : Int) < c := by omega
      have d : ltI (((((sBytes (l.extract f t)).map plI ++ [10] ++ List.replicate i 32).length : Int) + 1) * 1) 140737488355328 = true := by
        rw [ltI_eq, decide_eq_true_eq, List.length_append, List.length_append, List.length_replicate, hM]
        simp only [List.length_singleton]; omega
      simp only [bautaref29_Excerpt_l17_T, run_br, run_ret, ew, d, if_true, i64_succ (i := f + i) (by omega)]
      simp only [ltI_eq, decide_eq_true_eq, if_pos hi1]
      rw [List.append_assoc _ (List.replicate i 32) [32], ← List.replicate_succ', show f + i + 1 = f + (i + 1) by omega]
    · have : ¬ (((f + (c - f) : Nat) : Int) < c) := by omega
      simp only [bautaref29_Excerpt_l17_T, run_br, run_ret, ew, ltI_eq, decide_eq_true_eq, if_neg this]
  have d2 : ltI (((((sBytes (l.extract f t)).map plI ++ [10] ++ List.replicate (c - f) 32).length : Int) + 1) * 1) 140737488355328 = true := by
    rw [ltI_eq, decide_eq_true_eq, List.length_append, List.length_append, List.length_replicate, hM]
    simp only [List.length_singleton]; omega
  simp only [bautaref29_Excerpt_j9, bautaref29_Excerpt_j9_T, run_br, run_call, run_ret, toNat_nat, d0, hl, Option.bind_some, d1, h17, d2, if_true]
  simp only [leI_eq, Bool.and_eq_true, decide_eq_true_eq, if_pos c1, Option.some.injEq]
  apply bs_ext
  have hb := plain_bs (l.extract f t)
  rw [bs_bytes] at hb
  rw [bs_bytes, List.map_append, List.map_append, List.map_append, hb, List.map_replicate]
  show (bs (l.extract f t)).map plU ++ [10] ++ List.replicate (c - f) 32 ++ [94] = exL (bs l) c f t
  rw [bs_extract, exL]
  simp
end Go.Proofs.YtklnpdnfjponpaaDoorV
