/- Sorts, uses, counts of graphs' gates: both functions each. -/
import Derived.Test.YtgdbnamlnemfmaaPGraphA
namespace Go.Proofs.YtgdbnamlnemfmaaV
set_option linter.unusedVariables false
set_option linter.unusedSimpArgs false

theorem same2_refl (N : Nat) (l : List Int) (h : l.length ≤ 9000000) (hN : l.length < N) : bautaref02_Same N l l = some true := by
  have l4 : bautaref02_Same_l4 N l l 0 = some (.inr ()) := by
    unfold bautaref02_Same_l4
    refine loop_up (s := fun v => bautaref02_Same_l4_T N l l v) (fun i : Nat => (i : Int)) l.length _ (k := 0) (m := N) (by omega) (by omega) (fun i _ hi => ?_) ?_
    · simp [bautaref02_Same_l4_T, i64_succ (i := i) (by omega), inRange_iff, hi]
    · simp [bautaref02_Same_l4_T]
  simp [bautaref02_Same, bautaref02_Same_T, l4]

/-- How many gates a gate of a graph takes. -/
def tkG (k : Int) : Int := if k = 12 then 1 else takes k

theorem ref_tkG (N : Nat) (k : Int) : bautaref20_Takes N k = some (tkG k) := by
  simp only [bautaref20_Takes, bautaref20_Takes_T, run_br, run_call, run_ret, ref_takes, Option.bind_some, beq_iffI, tkG]
  split <;> rfl

theorem tkG_cases (k : Int) : tkG k = 0 ∨ tkG k = 1 ∨ tkG k = 2 := by
  unfold tkG
  split
  · simp
  · exact takes_cases k

theorem tk5G : takes 5 = 1 := by decide
theorem tkG_as (g : Gate) : takes (asG 5 g).1 = tkG g.1 := by
  unfold asG tkG
  split
  · exact tk5G
  · rfl

section
variable {gs : List Gate} {s p : Int} {os : List GOut}

theorem g_in (h : CanOK (asK 5 gs) s p os) {i : Nat} (hi : i < gs.length) : (1 ≤ tkG gs[i].1 → 0 ≤ gs[i].2.1 ∧ gs[i].2.1 < i) ∧ (2 ≤ tkG gs[i].1 → 0 ≤ gs[i].2.2.1 ∧ gs[i].2.2.1 < i) := by
  have hok := gate_of h hi
  have e : (asG 5 gs[i]).2 = gs[i].2 := by unfold asG; split <;> rfl
  refine ⟨fun h1 => ?_, fun h1 => ?_⟩
  · have := hok.2.2.2.1 (by rw [tkG_as]; exact h1)
    rwa [e] at this
  · have := hok.2.2.2.2.1 (by rw [tkG_as]; exact h1)
    rwa [e] at this

theorem out_in (h : CanOK (asK 5 gs) s p os) {j : Nat} (hj : j < os.length) : 0 ≤ os[j].2 ∧ os[j].2 < gs.length := by
  have := h.2.2.2.2 j hj
  rwa [getD_nat _ _ _ hj, asK_len] at this

theorem kind_le (h : FewK (asK 5 gs)) {i : Nat} (hi : i < gs.length) : gs[i].1 ≤ 8 ∨ gs[i].1 = 12 := by
  have := h i (by rw [asK_len]; exact hi)
  rw [asK_get 5 gs i hi] at this
  unfold asG at this
  split at this
  · right; assumption
  · left; exact this

theorem kind_ge (h : CanOK (asK 5 gs) s p os) {i : Nat} (hi : i < gs.length) : 0 ≤ gs[i].1 := by
  have := (gate_of h hi).1
  unfold asG at this
  split at this
  · omega
  · exact this.1

/-- A gate's being secret. -/
theorem sec_gate (h : CanOK (asK 5 gs) s p os) {i : Nat} (hi : i < gs.length) : gs[i].2.2.2.2 = secOf gs (asG 5 gs[i]).1 gs[i].2.1 gs[i].2.2.1 := by
  have hok := (gate_of h hi).2.2.2.2.2.2
  have e : (asG 5 gs[i]).2 = gs[i].2 := by unfold asG; split <;> rfl
  rw [e] at hok
  rw [hok]
  simp only [secOf, as_sec]
end

/-! ### Sorts -/
def andG (gs : List Gate) (g : Gate) : Bool := decide (g.1 = 3) && (sec gs g.2.1 && sec gs g.2.2.1)
def sortV (gs : List Gate) (g : Gate) : Int := if g.2.2.2.2 = true then (if g.1 = 12 ∨ andG gs g = true then 2 else 1) else 0

theorem real_sort (N : Nat) (gs : List Gate) (i : Nat) (hi : i < gs.length) (h3 : gs[i].1 = 3 → (0 ≤ gs[i].2.1 ∧ gs[i].2.1 < gs.length) ∧ (0 ≤ gs[i].2.2.1 ∧ gs[i].2.2.1 < gs.length)) : graph_sort N gs i = some (sortV gs gs[i]) := by
  have hd : ((0, (0, (0, (0, false)))) : Gate) = g0 := rfl
  simp only [graph_sort, graph_sort_T, run_br, run_ret, inRange_iff, toNat_nat, hd, getD_nat _ _ _ hi, beq_iffI, sortV, andG, sec]
  rw [if_pos (by omega)]
  generalize gs[i] = g at *
  by_cases hs : g.2.2.2.2 = true
  · by_cases h12 : g.1 = 12
    · simp [hs, h12]
    · by_cases hk3 : g.1 = 3
      · obtain ⟨b1, b2⟩ := h3 hk3
        simp only [hs, h12, hk3, b1, b2, and_self, if_true, if_false]
        by_cases x1 : (gs.getD g.2.1.toNat g0).2.2.2.2 = true <;> by_cases x2 : (gs.getD g.2.2.1.toNat g0).2.2.2.2 = true <;> simp [-List.getD_eq_getElem?_getD, x1, x2]
      · simp [hs, h12, hk3]
  · simp [hs]

theorem ref_sort3 (N : Nat) (gs : List Gate) (i : Nat) (hi : i < gs.length) (h3 : gs[i].1 = 3 → (0 ≤ gs[i].2.1 ∧ gs[i].2.1 < gs.length) ∧ (0 ≤ gs[i].2.2.1 ∧ gs[i].2.2.1 < gs.length)) (hs : gs[i].2.2.2.2 = true) : bautaref20_Sort_j3 N i gs = some (sortV gs gs[i]) := by
  have hd : ((0, (0, (0, (0, false)))) : Gate) = g0 := rfl
  simp only [bautaref20_Sort_j3, bautaref20_Sort_j3_T, run_br, run_ret, inRange_iff, toNat_nat, hd, getD_nat _ _ _ hi, beq_iffI, sortV, andG, sec]
  rw [if_pos (by omega)]
  generalize gs[i] = g at *
  by_cases h12 : g.1 = 12
  · simp [hs, h12]
  · by_cases hk3 : g.1 = 3
    · obtain ⟨b1, b2⟩ := h3 hk3
      simp only [hs, h12, hk3, b1, b2, and_self, if_true, if_false]
      by_cases x1 : (gs.getD g.2.1.toNat g0).2.2.2.2 = true <;> by_cases x2 : (gs.getD g.2.2.1.toNat g0).2.2.2.2 = true <;> simp [-List.getD_eq_getElem?_getD, x1, x2]
    · simp [hs, h12, hk3]

theorem in3 {gs : List Gate} {s p : Int} {os : List GOut} (h : CanOK (asK 5 gs) s p os) {i : Nat} (hi : i < gs.length) (hk : gs[i].1 = 3) : (0 ≤ gs[i].2.1 ∧ gs[i].2.1 < gs.length) ∧ (0 ≤ gs[i].2.2.1 ∧ gs[i].2.2.1 < gs.length) := by
  have := g_in h hi
  rw [hk] at this
  have h1 := this.1 (by decide)
  have h2 := this.2 (by decide)
  omega

theorem sorts_same (N : Nat) (gs : List Gate) (s p : Int) (os : List GOut) (hw : Wds gs) (hl : gs.length ≤ 8000) (ho : os.length ≤ 8000) (hN : 9000 < N) (x : Int) : ∃ y, graph_Sort N gs s p os x = some y ∧ bautaref20_Sort N gs s p os x = some y := by
  have hd : ((0, (0, (0, (0, false)))) : Gate) = g0 := rfl
  simp only [graph_Sort, graph_Sort_T, bautaref20_Sort, bautaref20_Sort_T, run_br, run_call, run_ret, real_gcan N gs s p os hw hl ho hN, ref_gcan N gs s p os hw hl ho hN, Option.bind_some, ltI_eq, leI_eq, decide_eq_true_eq, inRange_iff, hd]
  by_cases hc : GCan gs s p os
  · by_cases h1 : x < 0
    · exact ⟨0, by simp [hc, h1], by simp [hc, h1]⟩
    by_cases h2 : (gs.length : Int) ≤ x
    · exact ⟨0, by simp [hc, h1, h2], by simp [hc, h1, h2]⟩
    obtain ⟨i, rfl⟩ : ∃ i : Nat, x = i := ⟨x.toNat, by omega⟩
    have hi : i < gs.length := by omega
    have h3 := fun hk => in3 hc.1.1 hi hk
    refine ⟨sortV gs gs[i], ?_, ?_⟩
    · simp only [hc, h1, h2, real_sort N gs i hi h3, Option.bind_some]
      simp
    · simp only [hc, h1, h2, toNat_nat, getD_nat _ _ _ hi]
      by_cases hs : gs[i].2.2.2.2 = true
      · simp only [hs, ref_sort3 N gs i hi h3 hs, Option.bind_some]
        simp [hi]
      · simp [hs, hi, sortV]
  · exact ⟨0, by simp [hc], by simp [hc]⟩

/-! ### Uses -/
def inc (gs : List Gate) (out : List Int) (x : Int) : List Int := if sec gs x = true then out.set x.toNat (out.getD x.toNat 0 + 1) else out

/-- As long as the gates; no number above b. -/
def BO (gs : List Gate) (out : List Int) (b : Int) : Prop := out.length = gs.length ∧ ∀ j, 0 ≤ out.getD j 0 ∧ out.getD j 0 ≤ b

theorem BO.incr {gs : List Gate} {out : List Int} {b : Int} (h : BO gs out b) (x : Int) : BO gs (inc gs out x) (b + 1) := by
  unfold inc
  split
  · refine ⟨by rw [List.length_set]; exact h.1, fun j => ?_⟩
    have hx := h.2 x.toNat
    have hj := h.2 j
    by_cases e : x.toNat = j
    · subst e
      rcases Nat.lt_or_ge x.toNat out.length with hlt | hge
      · rw [getD_set_eq _ _ _ hlt]; omega
      · rw [List.set_eq_of_length_le hge]; omega
    · rw [getD_set_ne _ _ _ e]; omega
  · exact ⟨h.1, fun j => by have := h.2 j; omega⟩

theorem BO.fold {gs : List Gate} (l : List Int) : ∀ {out : List Int} {b : Int}, BO gs out b → BO gs (l.foldl (inc gs) out) (b + l.length) := by
  induction l with
  | nil => intro out b h; simpa using h
  | cons x l ih =>
    intro out b h
    have := ih (h.incr x)
    simp only [List.foldl_cons, List.length_cons]
    rw [show b + ((l.length + 1 : Nat) : Int) = b + 1 + l.length by omega]
    exact this

theorem real_use (N : Nat) (gs : List Gate) (l : List Int) (out : List Int) (b : Int) (h : BO gs out b) (hb : b ≤ 1000000) (hll : l.length ≤ 1000) (hN : 1000 < N) (hin : ∀ x ∈ l, 0 ≤ x ∧ x < gs.length) :
    graph_Uses_1 N l gs out = some (l.foldl (inc gs) out) := by
  have hd : ((0, (0, (0, (0, false)))) : Gate) = g0 := rfl
  have l1 : graph_Uses_1_l1 N l.length l gs (0, out) = some (l.foldl (inc gs) out) := by
    unfold graph_Uses_1_l1
    have := loop_up (s := fun v => graph_Uses_1_l1_T N l.length l gs v.1 v.2) (fun i : Nat => ((i : Int), (l.take i).foldl (inc gs) out)) l.length (l.foldl (inc gs) out) (k := 0) (m := N) (by omega) (by omega) (fun i _ hi => ?_) ?_
    · exact this
    · have hx := hin l[i] (List.getElem_mem hi)
      have hbo := BO.fold (l.take i) h
      have htl : (l.take i).length = i := by simp; omega
      rw [htl] at hbo
      have hv := hbo.2 l[i].toNat
      have hsec : ∀ x : Int, (gs.getD x.toNat g0).2.2.2.2 = sec gs x := fun _ => rfl
      simp only [graph_Uses_1_l1_T, run_br, run_ret, ltI_eq, decide_eq_true_eq, inRange_iff, toNat_nat, hd, hsec, getD_nat _ _ _ hi, hbo.1, i64_succ (i := i) (by omega), i64_in (x := ((l.take i).foldl (inc gs) out).getD l[i].toNat 0 + 1) (by omega)]
      rw [if_pos (by omega), if_pos (by omega), if_pos hx, take_snoc _ hi, List.foldl_append]
      simp only [List.foldl_cons, List.foldl_nil, inc]
      by_cases hs : sec gs l[i] = true
      · rw [if_pos hs, if_pos hs, if_pos hx, if_pos hx]
      · rw [if_neg hs, if_neg hs]
    · simp [graph_Uses_1_l1_T]
  simp only [graph_Uses_1, graph_Uses_1_T, run_call, l1, Option.bind_some, run_ret]

/-- The gates that a gate takes. -/
def takesL (g : Gate) : List Int := if 2 ≤ tkG g.1 then [g.2.1, g.2.2.1] else if 1 ≤ tkG g.1 then [g.2.1] else []

theorem real_takesL (N : Nat) (g : Gate) (hk : 0 ≤ g.1 ∧ (g.1 ≤ 8 ∨ g.1 = 12)) : graph_takes N g.1 g.2.1 g.2.2.1 = some (takesL g) := by
  obtain ⟨k, a, b, n, t⟩ := g
  simp only at hk ⊢
  have : k = 0 ∨ k = 1 ∨ k = 2 ∨ k = 3 ∨ k = 4 ∨ k = 5 ∨ k = 6 ∨ k = 7 ∨ k = 8 ∨ k = 12 := by omega
  rcases this with rfl | rfl | rfl | rfl | rfl | rfl | rfl | rfl | rfl | rfl <;> simp [graph_takes, graph_takes_T, graph_takes_j4, graph_takes_j4_T, takesL, tkG, takes]

def useG (gs : List Gate) (out : List Int) (g : Gate) : List Int := (takesL g).foldl (inc gs) out
def useO (gs : List Gate) (out : List Int) (o : GOut) : List Int := inc gs out o.2
def usesG (gs : List Gate) (i : Nat) : List Int := (gs.take i).foldl (useG gs) (List.replicate gs.length 0)
def usesA (gs : List Gate) (os : List GOut) (j : Nat) : List Int := (os.take j).foldl (useO gs) (usesG gs gs.length)

theorem usesG_bo (gs : List Gate) : ∀ i, i ≤ gs.length → BO gs (usesG gs i) (2 * i)
  | 0, _ => ⟨by simp [usesG], fun j => by
      have : (usesG gs 0).getD j 0 = 0 := by
        simp only [usesG, List.take_zero, List.foldl_nil, List.getD_eq_getElem?_getD, List.getElem?_replicate]
        split <;> rfl
      rw [this]; omega⟩
  | i + 1, h => by
    have ih := usesG_bo gs i (by omega)
    have := BO.fold (takesL gs[i]) ih
    have hl : (takesL gs[i]).length ≤ 2 := by unfold takesL; split <;> (try split) <;> simp
    simp only [usesG, take_snoc gs (by omega : i < gs.length), List.foldl_append, List.foldl_cons, List.foldl_nil]
    exact ⟨this.1, fun j => by have := this.2 j; simp only [useG, usesG] at this ⊢; omega⟩

theorem usesA_bo (gs : List Gate) (os : List GOut) : ∀ j, j ≤ os.length → BO gs (usesA gs os j) (2 * gs.length + j)
  | 0, _ => by simpa [usesA] using usesG_bo gs gs.length (Nat.le_refl _)
  | j + 1, h => by
    have ih := usesA_bo gs os j (by omega)
    have := ih.incr os[j].2
    simp only [usesA, take_snoc os (by omega : j < os.length), List.foldl_append, List.foldl_cons, List.foldl_nil]
    exact ⟨this.1, fun k => by have := this.2 k; simp only [useO, usesA] at this ⊢; omega⟩

def usesS (gs : List Gate) (s p : Int) (os : List GOut) : List Int := if GCan gs s p os then usesA gs os os.length else []

theorem real_uses (N : Nat) (gs : List Gate) (s p : Int) (os : List GOut) (hw : Wds gs) (hl : gs.length ≤ 8000) (ho : os.length ≤ 8000) (hN : 9000 < N) : graph_Uses N gs s p os = some (usesS gs s p os) := by
  have hcap : (leI 0 (gs.length : Int) && (leI (gs.length : Int) (gs.length : Int) && (ltI ((gs.length : Int) * 8) 140737488355328 && ltI (gs.length : Int) 140737488355328))) = true := by
    simp only [leI_eq, ltI_eq, Bool.and_eq_true, decide_eq_true_eq]; omega
  simp only [graph_Uses, graph_Uses_T, real_gcan N gs s p os hw hl ho hN, hcap]
  by_cases hc : GCan gs s p os
  · have l6 : graph_Uses_l6 N gs gs.length gs (0, List.replicate gs.length 0) = some (usesG gs gs.length) := by
      unfold graph_Uses_l6
      have := loop_up (s := fun v => graph_Uses_l6_T N gs gs.length gs v.1 v.2) (fun i : Nat => ((i : Int), usesG gs i)) gs.length (usesG gs gs.length) (k := 0) (m := N) (by omega) (by omega) (fun i _ hi => ?_) ?_
      · exact this
      · have hd : ((0, (0, (0, (0, false)))) : Gate) = g0 := rfl
        have hbo := usesG_bo gs i (by omega)
        have hin := g_in hc.1.1 hi
        have hll : (takesL gs[i]).length ≤ 2 := by unfold takesL; split <;> (try split) <;> simp
        have hmem : ∀ x ∈ takesL gs[i], 0 ≤ x ∧ x < gs.length := by
          intro x hx
          unfold takesL at hx
          split at hx
          · rename_i h2
            have b1 := hin.1 (by omega)
            have b2 := hin.2 h2
            simp only [List.mem_cons, List.not_mem_nil, or_false] at hx
            rcases hx with rfl | rfl <;> omega
          · split at hx
            · rename_i h1
              have b1 := hin.1 h1
              simp only [List.mem_cons, List.not_mem_nil, or_false] at hx
              subst hx; omega
            · cases hx
        simp only [graph_Uses_l6_T, run_br, run_call, run_ret, ltI_eq, decide_eq_true_eq, inRange_iff, toNat_nat, hd, getD_nat _ _ _ hi, real_takesL N gs[i] ⟨kind_ge hc.1.1 hi, kind_le hc.1.2 hi⟩, Option.bind_some, real_use N gs (takesL gs[i]) (usesG gs i) _ hbo (by omega) (by omega) (by omega) hmem, i64_succ (i := i) (by omega)]
        rw [if_pos (by omega), if_pos (by omega)]
        simp only [usesG, take_snoc _ hi, List.foldl_append, List.foldl_cons, List.foldl_nil, useG]
      · simp [graph_Uses_l6_T]
    have l11 : graph_Uses_l11 N os os.length gs (0, usesG gs gs.length) = some (usesA gs os os.length) := by
      unfold graph_Uses_l11
      have := loop_up (s := fun v => graph_Uses_l11_T N os os.length gs v.1 v.2) (fun i : Nat => ((i : Int), usesA gs os i)) os.length (usesA gs os os.length) (k := 0) (m := N) (by omega) (by omega) (fun i _ hi => ?_) ?_
      · exact this
      · have hbo := usesA_bo gs os i (by omega)
        have ho := out_in hc.1.1 hi
        simp only [graph_Uses_l11_T, run_br, run_call, run_ret, ltI_eq, decide_eq_true_eq, inRange_iff, toNat_nat, getD_nat _ _ _ hi, real_use N gs [os[i].2] (usesA gs os i) _ hbo (by omega) (by simp) (by omega) (by intro x hx; simp only [List.mem_cons, List.not_mem_nil, or_false] at hx; subst hx; exact ho), Option.bind_some, i64_succ (i := i) (by omega)]
        rw [if_pos (by omega), if_pos (by omega)]
        simp only [usesA, take_snoc _ hi, List.foldl_append, List.foldl_cons, List.foldl_nil, useO]
      · simp [graph_Uses_l11_T]
    simp only [run_call, run_br, run_ret, Option.bind_some, hc, decide_true, Bool.not_true, Bool.false_eq_true, if_false, if_true, Int.toNat_natCast, l6, l11, usesS]
  · simp only [run_call, run_br, run_ret, Option.bind_some, hc, decide_false, usesS]
    simp

theorem ref_inc9 (N : Nat) (gs : List Gate) (out : List Int) (b : Int) (h : BO gs out b) (hb : b ≤ 1000000) (x : Int) (hx : 0 ≤ x ∧ x < gs.length) : bautaref20_Uses_j9 N (sec gs x) out x = some (inc gs out x) := by
  have hv := h.2 x.toNat
  simp only [bautaref20_Uses_j9, bautaref20_Uses_j9_T, run_br, run_ret, inRange_iff, h.1, i64_in (x := out.getD x.toNat 0 + 1) (by omega), inc]
  split
  · simp only [if_pos hx]
  · rfl
theorem ref_inc11 (N : Nat) (gs : List Gate) (out : List Int) (b : Int) (h : BO gs out b) (hb : b ≤ 1000000) (x : Int) (hx : 0 ≤ x ∧ x < gs.length) : bautaref20_Uses_j11 N (sec gs x) out x = some (inc gs out x) := by
  have hv := h.2 x.toNat
  simp only [bautaref20_Uses_j11, bautaref20_Uses_j11_T, run_br, run_ret, inRange_iff, h.1, i64_in (x := out.getD x.toNat 0 + 1) (by omega), inc]
  split
  · simp only [if_pos hx]
  · rfl

theorem ref_uses (N : Nat) (gs : List Gate) (s p : Int) (os : List GOut) (hw : Wds gs) (hl : gs.length ≤ 8000) (ho : os.length ≤ 8000) (hN : 9000 < N) : bautaref20_Uses N gs s p os = some (usesS gs s p os) := by
  have hcap : (leI 0 (gs.length : Int) && (leI (gs.length : Int) (gs.length : Int) && (ltI ((gs.length : Int) * 8) 140737488355328 && ltI (gs.length : Int) 140737488355328))) = true := by
    simp only [leI_eq, ltI_eq, Bool.and_eq_true, decide_eq_true_eq]; omega
  have hd : ((0, (0, (0, (0, false)))) : Gate) = g0 := rfl
  simp only [bautaref20_Uses, bautaref20_Uses_T, ref_gcan N gs s p os hw hl ho hN, hcap]
  by_cases hc : GCan gs s p os
  · have l5 : bautaref20_Uses_l5 N gs (0, List.replicate gs.length 0) = some (usesG gs gs.length) := by
      unfold bautaref20_Uses_l5
      have := loop_up (s := fun v => bautaref20_Uses_l5_T N gs v.1 v.2) (fun i : Nat => ((i : Int), usesG gs i)) gs.length (usesG gs gs.length) (k := 0) (m := N) (by omega) (by omega) (fun i _ hi => ?_) ?_
      · exact this
      · have hbo := usesG_bo gs i (by omega)
        have hin := g_in hc.1.1 hi
        have hsec : ∀ x : Int, (gs.getD x.toNat g0).2.2.2.2 = sec gs x := fun _ => rfl
        have f9 : ∀ out x, bautaref20_Uses_j9 N false out x = some out := fun _ _ => rfl
        have f11 : ∀ out x, bautaref20_Uses_j11 N false out x = some out := fun _ _ => rfl
        have key : (bautaref20_Uses_l5_T N gs i (usesG gs i)).run some = some (.inl (((i + 1 : Nat) : Int), useG gs (usesG gs i) gs[i])) := by
          simp only [bautaref20_Uses_l5_T, run_br, run_call, run_ret, ltI_eq, decide_eq_true_eq, inRange_iff, toNat_nat, hd, getD_nat _ _ _ hi, ref_tkG, Option.bind_some, bautaref20_Uses_j10, bautaref20_Uses_j10_T, hsec, i64_succ (i := i) (by omega), useG, takesL]
          rw [if_pos (by omega), if_pos (by omega)]
          rcases tkG_cases gs[i].1 with ht | ht | ht
          · simp [ht, f9, f11]
          · have b1 := hin.1 (by omega)
            have c1 : 0 ≤ gs[i].2.1 ∧ gs[i].2.1 < (gs.length : Int) := by omega
            have e9 := ref_inc9 N gs _ _ hbo (by omega) _ c1
            simp [ht, f11, e9, c1.1, c1.2]
          · have b1 := hin.1 (by omega)
            have b2 := hin.2 (by omega)
            have c1 : 0 ≤ gs[i].2.1 ∧ gs[i].2.1 < (gs.length : Int) := by omega
            have c2 : 0 ≤ gs[i].2.2.1 ∧ gs[i].2.2.1 < (gs.length : Int) := by omega
            have e9 := ref_inc9 N gs _ _ hbo (by omega) _ c1
            have e11 := ref_inc11 N gs _ _ (hbo.incr gs[i].2.1) (by omega) _ c2
            simp [ht, e9, e11, c1.1, c1.2, c2.1, c2.2]
        rw [key]
        simp only [usesG, take_snoc _ hi, List.foldl_append, List.foldl_cons, List.foldl_nil]
      · simp [bautaref20_Uses_l5_T]
    have l13 : bautaref20_Uses_l13 N gs os (0, usesG gs gs.length) = some (usesA gs os os.length) := by
      unfold bautaref20_Uses_l13
      have := loop_up (s := fun v => bautaref20_Uses_l13_T N gs os v.1 v.2) (fun i : Nat => ((i : Int), usesA gs os i)) os.length (usesA gs os os.length) (k := 0) (m := N) (by omega) (by omega) (fun i _ hi => ?_) ?_
      · exact this
      · have hbo := usesA_bo gs os i (by omega)
        have ho := out_in hc.1.1 hi
        have hv := hbo.2 os[i].2.toNat
        have hsec : ∀ x : Int, (gs.getD x.toNat g0).2.2.2.2 = sec gs x := fun _ => rfl
        have key : (bautaref20_Uses_l13_T N gs os i (usesA gs os i)).run some = some (.inl (((i + 1 : Nat) : Int), useO gs (usesA gs os i) os[i])) := by
          simp only [bautaref20_Uses_l13_T, run_br, run_ret, ltI_eq, decide_eq_true_eq, inRange_iff, toNat_nat, hd, getD_nat _ _ _ hi, hsec, hbo.1, i64_succ (i := i) (by omega), i64_in (x := (usesA gs os i).getD os[i].2.toNat 0 + 1) (by omega), useO, inc]
          rw [if_pos (by omega), if_pos (by omega), if_pos ho]
          by_cases hs : sec gs os[i].2 = true
          · rw [if_pos hs, if_pos hs, if_pos (by omega), if_pos ho, if_pos ho]
          · rw [if_neg hs, if_neg hs]
        rw [key]
        simp only [usesA, take_snoc _ hi, List.foldl_append, List.foldl_cons, List.foldl_nil]
      · simp [bautaref20_Uses_l13_T]
    simp only [run_call, run_br, run_ret, Option.bind_some, hc, decide_true, Bool.not_true, Bool.false_eq_true, if_false, if_true, Int.toNat_natCast, l5, l13, usesS]
  · simp only [run_call, run_br, run_ret, Option.bind_some, hc, decide_false, usesS]
    simp

/-! ### Counts -/
def cntA (gs : List Gate) (i : Nat) : Nat := (gs.take i).countP (andG gs)
def cntF (gs : List Gate) (i : Nat) : Nat := (gs.take i).countP fun g => decide (g.1 = 12)
def cntS (gs : List Gate) (i : Nat) : Nat := (gs.take i).countP fun g => decide (g.1 = 1)
theorem cnt_snoc (p : Gate → Bool) (gs : List Gate) (i : Nat) (h : i < gs.length) : (gs.take (i + 1)).countP p = (gs.take i).countP p + (if p gs[i] = true then 1 else 0) := by
  rw [take_snoc _ h, List.countP_append, List.countP_singleton]
theorem cnt_le' (p : Gate → Bool) (gs : List Gate) (i : Nat) : (gs.take i).countP p ≤ i := Nat.le_trans List.countP_le_length (by simp; omega)

def countS (gs : List Gate) (s p : Int) (os : List GOut) : Int × Int × Int := if GCan gs s p os then ((cntA gs gs.length : Int), (cntF gs gs.length : Int), (cntS gs gs.length : Int)) else (0, 0, 0)

theorem real_count (N : Nat) (gs : List Gate) (s p : Int) (os : List GOut) (hw : Wds gs) (hl : gs.length ≤ 8000) (ho : os.length ≤ 8000) (hN : 9000 < N) : graph_Count N gs s p os = some (countS gs s p os) := by
  have hd : ((0, (0, (0, (0, false)))) : Gate) = g0 := rfl
  simp only [graph_Count, graph_Count_T, run_call, run_br, run_ret, real_gcan N gs s p os hw hl ho hN, Option.bind_some]
  by_cases hc : GCan gs s p os
  · have l4 : graph_Count_l4 N gs gs.length gs (0, 0, 0, 0) = some ((cntA gs gs.length : Int), (cntF gs gs.length : Int), (cntS gs gs.length : Int)) := by
      unfold graph_Count_l4
      have := loop_up (s := fun v => graph_Count_l4_T N gs gs.length gs v.1 v.2.1 v.2.2.1 v.2.2.2) (fun i : Nat => ((cntA gs i : Int), (cntF gs i : Int), (cntS gs i : Int), (i : Int))) gs.length ((cntA gs gs.length : Int), (cntF gs gs.length : Int), (cntS gs gs.length : Int)) (k := 0) (m := N) (by omega) (by omega) (fun i _ hi => ?_) ?_
      · exact this
      · have c1 : cntA gs i ≤ i := cnt_le' _ _ _
        have c2 : cntF gs i ≤ i := cnt_le' _ _ _
        have c3 : cntS gs i ≤ i := cnt_le' _ _ _
        have e1 : cntA gs (i + 1) = cntA gs i + (if andG gs gs[i] = true then 1 else 0) := cnt_snoc _ _ _ hi
        have e2 : cntF gs (i + 1) = cntF gs i + (if decide (gs[i].1 = 12) = true then 1 else 0) := cnt_snoc _ _ _ hi
        have e3 : cntS gs (i + 1) = cntS gs i + (if decide (gs[i].1 = 1) = true then 1 else 0) := cnt_snoc _ _ _ hi
        simp only [graph_Count_l4_T, run_br, run_call, run_ret, ltI_eq, decide_eq_true_eq, inRange_iff, toNat_nat, hd, getD_nat _ _ _ hi, beq_iffI, real_sort N gs i hi (fun hk => in3 hc.1.1 hi hk), Option.bind_some, i64_succ (i := i) (by omega), i64_succ (i := cntA gs i) (by omega), i64_succ (i := cntF gs i) (by omega), i64_succ (i := cntS gs i) (by omega), e1, e2, e3]
        rw [if_pos (by omega), if_pos (by omega)]
        by_cases h12 : gs[i].1 = 12
        · simp [h12, andG]
        by_cases h1 : gs[i].1 = 1
        · simp [h1, andG]
        · have hs : sortV gs gs[i] = 2 ↔ andG gs gs[i] = true := by
            unfold sortV
            constructor
            · intro h
              split at h
              · split at h
                · rename_i hh; rcases hh with hh | hh
                  · exact absurd hh h12
                  · exact hh
                · cases h
              · cases h
            · intro h
              have hk3 : gs[i].1 = 3 := by simp only [andG, Bool.and_eq_true, decide_eq_true_eq] at h; exact h.1
              have hse := sec_gate hc.1.1 hi
              have h' := h
              simp only [andG, Bool.and_eq_true, decide_eq_true_eq] at h'
              have : gs[i].2.2.2.2 = true := by
                rw [hse]
                simp [secOf, asG, hk3, takes, h'.2.1]
              rw [if_pos this, if_pos (.inr h)]
          simp only [h12, h1, if_false, hs]
          by_cases ha : andG gs gs[i] = true <;> simp [ha]
      · simp [graph_Count_l4_T]
    simp only [hc, l4, Option.bind_some, countS]
    simp
  · simp [hc, countS]

theorem ref_count (N : Nat) (gs : List Gate) (s p : Int) (os : List GOut) (hw : Wds gs) (hl : gs.length ≤ 8000) (ho : os.length ≤ 8000) (hN : 9000 < N) : bautaref20_Count N gs s p os = some (countS gs s p os) := by
  have hd : ((0, (0, (0, (0, false)))) : Gate) = g0 := rfl
  simp only [bautaref20_Count, bautaref20_Count_T, run_call, run_br, run_ret, ref_gcan N gs s p os hw hl ho hN, Option.bind_some]
  by_cases hc : GCan gs s p os
  · have l5 : bautaref20_Count_l5 N gs (0, 0, 0, 0) = some ((cntA gs gs.length : Int), (cntF gs gs.length : Int), (cntS gs gs.length : Int)) := by
      unfold bautaref20_Count_l5
      have := loop_up (s := fun v => bautaref20_Count_l5_T N gs v.1 v.2.1 v.2.2.1 v.2.2.2) (fun i : Nat => ((cntA gs i : Int), (cntF gs i : Int), (cntS gs i : Int), (i : Int))) gs.length ((cntA gs gs.length : Int), (cntF gs gs.length : Int), (cntS gs gs.length : Int)) (k := 0) (m := N) (by omega) (by omega) (fun i _ hi => ?_) ?_
      · exact this
      · have c1 : cntA gs i ≤ i := cnt_le' _ _ _
        have c2 : cntF gs i ≤ i := cnt_le' _ _ _
        have c3 : cntS gs i ≤ i := cnt_le' _ _ _
        have e1 : cntA gs (i + 1) = cntA gs i + (if andG gs gs[i] = true then 1 else 0) := cnt_snoc _ _ _ hi
        have e2 : cntF gs (i + 1) = cntF gs i + (if decide (gs[i].1 = 12) = true then 1 else 0) := cnt_snoc _ _ _ hi
        have e3 : cntS gs (i + 1) = cntS gs i + (if decide (gs[i].1 = 1) = true then 1 else 0) := cnt_snoc _ _ _ hi
        simp only [bautaref20_Count_l5_T, run_br, run_call, run_ret, ltI_eq, decide_eq_true_eq, inRange_iff, toNat_nat, hd, getD_nat _ _ _ hi, beq_iffI, Option.bind_some, i64_succ (i := i) (by omega), i64_succ (i := cntA gs i) (by omega), i64_succ (i := cntF gs i) (by omega), i64_succ (i := cntS gs i) (by omega), e1, e2, e3]
        rw [if_pos (by omega), if_pos (by omega)]
        by_cases h12 : gs[i].1 = 12
        · simp [h12, andG]
        by_cases h1 : gs[i].1 = 1
        · simp [h1, andG]
        by_cases h3 : gs[i].1 = 3
        · obtain ⟨b1, b2⟩ := in3 hc.1.1 hi h3
          simp only [h3, b1, b2, and_self, if_true, andG, sec]
          by_cases x1 : (gs.getD gs[i].2.1.toNat g0).2.2.2.2 = true <;> by_cases x2 : (gs.getD gs[i].2.2.1.toNat g0).2.2.2.2 = true <;> simp [-List.getD_eq_getElem?_getD, x1, x2]
        · simp [h12, h1, h3, andG]
      · simp [bautaref20_Count_l5_T]
    simp only [hc, l5, Option.bind_some, countS]
    simp
  · simp [hc, countS]
end Go.Proofs.YtgdbnamlnemfmaaV
