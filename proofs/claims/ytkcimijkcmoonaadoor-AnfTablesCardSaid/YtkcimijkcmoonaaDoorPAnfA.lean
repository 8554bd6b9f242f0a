/- Polynomials as lists of terms that rise: what is there an odd number of times. -/
import Derived.Test.YtkcimijkcmoonaaDoorPSortG
namespace Go.Proofs.YtkcimijkcmoonaaDoorV
set_option linter.unusedVariables false
set_option linter.unusedSimpArgs false

/-! ### A term is put in, or taken out -/
def tog (t : Int) : List Int → List Int
  | [] => [t]
  | x :: l => if x < t then x :: tog t l else if x = t then l else t :: x :: l
/-- The terms that are there an odd number of times, rising. -/
def Mk (l : List Int) : List Int := l.foldl (fun acc t => tog t acc) []

abbrev SS (l : List Int) : Prop := l.Pairwise (· < ·)

theorem tog_lt {t y : Int} {l : List Int} (h : y ∈ tog t l) : y ∈ l ∨ y = t := by
  induction l with
  | nil => simp [tog] at h; exact .inr h
  | cons x l ih =>
    unfold tog at h
    split at h
    · rcases List.mem_cons.1 h with rfl | h
      · exact .inl (by simp)
      · rcases ih h with h | h
        · exact .inl (List.mem_cons_of_mem _ h)
        · exact .inr h
    · split at h
      · exact .inl (List.mem_cons_of_mem _ h)
      · rcases List.mem_cons.1 h with rfl | h
        · exact .inr rfl
        · exact .inl h
theorem tog_ss {t : Int} {l : List Int} (h : SS l) : SS (tog t l) := by
  induction l with
  | nil => simp [tog, SS]
  | cons x l ih =>
    obtain ⟨h1, h2⟩ := List.pairwise_cons.1 h
    unfold tog
    split
    · rename_i hx
      refine List.pairwise_cons.2 ⟨fun y hy => ?_, ih h2⟩
      rcases tog_lt hy with hy | rfl
      · exact h1 y hy
      · exact hx
    · split
      · exact h2
      · rename_i hx hne
        refine List.pairwise_cons.2 ⟨fun y hy => ?_, h⟩
        rcases List.mem_cons.1 hy with rfl | hy
        · omega
        · have := h1 y hy; omega
theorem tog_mem {t y : Int} {l : List Int} (h : SS l) : y ∈ tog t l ↔ (y ∈ l ∧ y ≠ t) ∨ (y ∉ l ∧ y = t) := by
  induction l with
  | nil => simp [tog]
  | cons x l ih =>
    obtain ⟨h1, h2⟩ := List.pairwise_cons.1 h
    have ih := ih h2
    unfold tog
    split
    · rename_i hx
      rw [List.mem_cons, ih]
      by_cases e : y = x
      · subst e
        simp; omega
      · simp [e]
    · split
      · rename_i hx he
        subst he
        have : x ∉ l := fun hm => by have := h1 x hm; omega
        by_cases e : y = x
        · subst e; simp [this]
        · simp [e]
      · rename_i hx he
        have : t ∉ l := fun hm => by have := h1 t hm; omega
        by_cases e : y = t
        · subst e; simp [this]; omega
        · simp [e]

theorem fold_ss : ∀ (l acc : List Int), SS acc → SS (l.foldl (fun acc t => tog t acc) acc)
  | [], acc, h => h
  | t :: l, acc, h => fold_ss l _ (tog_ss h)
theorem fold_mem (y : Int) : ∀ (l acc : List Int), SS acc → (y ∈ l.foldl (fun acc t => tog t acc) acc ↔ ((if y ∈ acc then 1 else 0) + l.count y) % 2 = 1)
  | [], acc, h => by by_cases e : y ∈ acc <;> simp [e]
  | t :: l, acc, h => by
    rw [List.foldl_cons, fold_mem y l _ (tog_ss h), List.count_cons]
    by_cases e : y = t
    · subst e
      by_cases e2 : y ∈ acc
      · have : ¬ y ∈ tog y acc := by rw [tog_mem h]; simp [e2]
        simp [e2, this]; omega
      · have : y ∈ tog y acc := by rw [tog_mem h]; simp [e2]
        simp [e2, this]; omega
    · have : y ∈ tog t acc ↔ y ∈ acc := by rw [tog_mem h]; simp [e]
      have e' : ¬ t = y := fun h => e h.symm
      simp [this, e']
theorem Mk_ss (l : List Int) : SS (Mk l) := fold_ss l [] .nil
theorem Mk_mem {l : List Int} {y : Int} : y ∈ Mk l ↔ l.count y % 2 = 1 := by
  unfold Mk
  rw [fold_mem y l [] .nil]
  simp

theorem SS.nodup {l : List Int} (h : SS l) : l.Nodup := h.imp (fun h => by omega)
theorem SS.ext {a b : List Int} (ha : SS a) (hb : SS b) (h : ∀ y, y ∈ a ↔ y ∈ b) : a = b :=
  List.Perm.eq_of_pairwise (le := (· < ·)) (fun x y _ _ h1 h2 => by omega) ha hb ((List.perm_ext_iff_of_nodup ha.nodup hb.nodup).2 h)
theorem Mk_of {l p : List Int} (hp : SS p) (h : ∀ y, y ∈ p ↔ l.count y % 2 = 1) : p = Mk l := SS.ext hp (Mk_ss l) fun y => by rw [h, Mk_mem]
theorem SS.count {l : List Int} (h : SS l) (y : Int) : l.count y = if y ∈ l then 1 else 0 := by
  rw [List.Nodup.count h.nodup]
theorem Mk_id {l : List Int} (h : SS l) : Mk l = l := (Mk_of h fun y => by rw [h.count]; split <;> simp_all).symm
theorem Mk_perm {l l' : List Int} (h : l.Perm l') : Mk l = Mk l' := SS.ext (Mk_ss _) (Mk_ss _) fun y => by rw [Mk_mem, Mk_mem, h.count_eq]
theorem Mk_sub {l : List Int} {y : Int} (h : y ∈ Mk l) : y ∈ l := by
  rw [Mk_mem] at h
  exact List.count_pos_iff.1 (by omega)
theorem Mk_len (l : List Int) : (Mk l).length ≤ l.length := by
  have : ∀ (t : Int) (l : List Int), (tog t l).length ≤ l.length + 1 := by
    intro t l
    induction l with
    | nil => simp [tog]
    | cons x l ih => unfold tog; split <;> (try split) <;> simp <;> omega
  have gen : ∀ (l acc : List Int), (l.foldl (fun acc t => tog t acc) acc).length ≤ acc.length + l.length := by
    intro l
    induction l with
    | nil => intro acc; simp
    | cons t l ih =>
      intro acc
      rw [List.foldl_cons]
      have := ih (tog t acc)
      have := ‹∀ (t : Int) (l : List Int), (tog t l).length ≤ l.length + 1› t acc
      simp; omega
  have := gen l []
  simpa [Mk] using this

/-! ### The program's way: sort, and let pairs go -/
section
variable (N : Nat) {n : Nat} (hn : (n : Int) < 17592186044416) (hN : n + 100 < N)
include hn hN

omit hN in
theorem clone_eq {l : List Int} (hl : l.length = n) : slices_Clone N l = some l := by
  have h : ltI ((0 + (l.length : Int)) * 8) 140737488355328 = true := by rw [ltI_iff]; omega
  simp only [slices_Clone, slices_Clone_T, run_br, run_or, run_ret, h, if_true]
  cases l with
  | nil => exact anyR_self _
  | cons x l => rfl

theorem made_l7 {r : List Int} (hr : r.length = n) {i : Nat} (hi : i < n) : OS (anf_made_l7 N i r i) (fun y => ∃ k : Nat, y = k ∧ i < k ∧ k ≤ n ∧ (∀ j, i ≤ j → j < k → r.getD j 0 = r.getD i 0) ∧ (k < n → r.getD k 0 ≠ r.getD i 0)) := by
  have h := loop_os (s := fun v => anf_made_l7_T N i r v) (m := N) (x := (i : Int)) (fun y : Int => (i : Int) ≤ y ∧ y ≤ n ∧ ∀ j, i ≤ j → (j : Int) < y → r.getD j 0 = r.getD i 0) (fun y => (n - y).toNat) (fun y => (i : Int) ≤ y ∧ y ≤ n ∧ (∀ j, i ≤ j → (j : Int) < y → r.getD j 0 = r.getD i 0) ∧ (y < n → r.getD y.toNat 0 ≠ r.getD i 0)) ⟨Int.le_refl _, by omega, fun j h1 h2 => by omega⟩ (by omega) ?_
  · refine h.mono fun y hy => ?_
    obtain ⟨h1, h2, h3, h4⟩ := hy
    refine ⟨y.toNat, by omega, ?_, by omega, fun j g1 g2 => h3 j g1 (by omega), fun hk => h4 (by omega)⟩
    rcases Nat.lt_or_ge i y.toNat with h | h
    · exact h
    · have e : y = i := by omega
      subst e
      exact absurd rfl (h4 (by omega))
  · rintro y ⟨h1, h2, h3⟩
    unfold anf_made_l7_T
    refine TS.br (fun hc => ?_) (fun hc => ?_)
    · rw [ltI_iff] at hc
      refine TS.brT (by rw [inRange_iff]; omega) (TS.brT (by rw [inRange_iff]; omega) (TS.br (fun he => ?_) (fun he => ?_)))
      · simp (disch := omega) only [i64_in]
        refine TS.ret ⟨⟨by omega, by omega, fun j g1 g2 => ?_⟩, by omega⟩
        by_cases e : (j : Int) = y
        · have : y.toNat = j := by omega
          have he' : r.getD y.toNat 0 = r.getD i 0 := by simpa using he
          rw [this] at he'
          exact he'
        · exact h3 j g1 (by omega)
      · refine TS.ret ⟨h1, h2, h3, fun _ he' => ?_⟩
        have hne : ¬ r.getD y.toNat 0 = r.getD i 0 := by simpa using he
        exact hne he'
    · have hc' : ¬ y < r.length := by rw [← ltI_iff, hc]; simp
      exact TS.ret ⟨h1, h2, h3, fun h => absurd h (by omega)⟩

/-- What holds between the runs of equal terms. -/
structure MI (s : List Int) (m i : Nat) (r : List Int) : Prop where
  mi : m ≤ i
  il : i ≤ s.length
  len : r.length = s.length
  rest : ∀ k, i ≤ k → r.getD k 0 = s.getD k 0
  ss : SS (r.take m)
  mem : ∀ y, y ∈ r.take m ↔ (s.take i).count y % 2 = 1
  low : ∀ j k, j < i → i ≤ k → k < s.length → s.getD j 0 < s.getD k 0

theorem made_l5 {s : List Int} (hs : s.length = n) (hsort : s.Pairwise (· ≤ ·)) : OS (anf_made_l5 N (0, 0, s)) (fun y => ∃ m : Nat, y.1 = m ∧ MI s m n y.2) := by
  have hle : ∀ j k, j ≤ k → k < n → s.getD j 0 ≤ s.getD k 0 := by
    intro j k h1 h2
    rcases Nat.lt_or_ge j k with h | h
    · rw [getD_nat s j 0 (by omega), getD_nat s k 0 (by omega)]
      exact List.pairwise_iff_getElem.1 hsort j k (by omega) (by omega) h
    · obtain rfl : j = k := by omega
      exact Int.le_refl _
  refine loop_os (fun x : Int × Int × List Int => ∃ m i : Nat, x.1 = m ∧ x.2.1 = i ∧ MI s m i x.2.2) (fun x => n - x.2.1.toNat) _ ⟨0, 0, rfl, rfl, Nat.le_refl _, Nat.zero_le _, rfl, fun _ _ => rfl, by simp, by simp, fun j k h => by omega⟩ (by dsimp only; omega) ?_
  rintro ⟨m', i', r⟩ ⟨m, i, h1, h2, h⟩
  dsimp only at h1 h2 h ⊢
  subst h1; subst h2
  obtain ⟨a1, a2, a3, a4, a5, a6, a7⟩ := h
  unfold anf_made_l5_T
  refine TS.br (fun hc => ?_) (fun hc => ?_)
  · rw [ltI_iff] at hc
    refine TS.call (made_l7 N hn hN (a3.trans hs) (by omega)) (fun y hy => ?_)
    obtain ⟨k, rfl, g1, g2, g3, g4⟩ := hy
    have hrun : ∀ j, i ≤ j → j < k → s.getD j 0 = s.getD i 0 := fun j e1 e2 => by rw [← a4 j e1, ← a4 i (Nat.le_refl _)]; exact g3 j e1 e2
    have hnext : k < n → s.getD i 0 < s.getD k 0 := fun hk => by
      have e1 := g4 hk
      rw [a4 k (by omega), a4 i (Nat.le_refl _)] at e1
      have := hle i k (by omega) hk
      omega
    have hseg : s.take k = s.take i ++ List.replicate (k - i) (s.getD i 0) := by
      have : (s.drop i).take (k - i) = List.replicate (k - i) (s.getD i 0) := by
        rw [List.eq_replicate_iff]
        refine ⟨by simp; omega, fun y hy => ?_⟩
        obtain ⟨j, hj, rfl⟩ := List.getElem_of_mem hy
        simp only [List.length_take, List.length_drop] at hj
        rw [List.getElem_take, List.getElem_drop, ← getD_nat s (i + j) 0 (by omega)]
        exact hrun (i + j) (by omega) (by omega)
      rw [← this, ← List.take_add]
      congr 1; omega
    have hcnt : ∀ y, (s.take k).count y = (s.take i).count y + if s.getD i 0 = y then k - i else 0 := fun y => by
      rw [hseg, List.count_append, List.count_replicate]; simp
    have hlow : ∀ j q, j < k → k ≤ q → q < s.length → s.getD j 0 < s.getD q 0 := fun j q e1 e2 e3 => by
      have h1 := hnext (by omega)
      have h2 := hle k q e2 (by omega)
      by_cases e : j < i
      · have := a7 j i e (Nat.le_refl _) (by omega); omega
      · rw [hrun j (by omega) e1]; omega
    have hnew : s.getD i 0 ∉ s.take i := fun hm => by
      obtain ⟨j, hj, e⟩ := List.getElem_of_mem hm
      simp only [List.length_take] at hj
      rw [List.getElem_take, ← getD_nat s j 0 (by omega)] at e
      have := a7 j i (by omega) (Nat.le_refl _) (by omega)
      omega
    have hc0 : (s.take i).count (s.getD i 0) = 0 := List.count_eq_zero.2 hnew
    have e1 : IntKind.i64.wrap ((k : Int) - i) = ((k - i : Nat) : Int) := by rw [i64_in (by omega)]; omega
    have e2 : (((k - i : Nat) : Int)).tmod 2 = ((k - i) % 2 : Nat) := by rw [Int.tmod_eq_emod_of_nonneg (by omega)]; omega
    dsimp only
    rw [e1, e2]
    refine TS.br (fun ho => ?_) (fun ho => ?_)
    · have ho' : (k - i) % 2 = 1 := by
        have : (((k - i) % 2 : Nat) : Int) = 1 := by simpa using ho
        omega
      refine TS.brT (by rw [inRange_iff]; omega) (TS.brT (by rw [inRange_iff]; omega) ?_)
      have e3 : IntKind.i64.wrap ((m : Int) + 1) = ((m + 1 : Nat) : Int) := i64_succ (by omega)
      rw [e3]
      have hset : r.getD ((i : Int)).toNat 0 = s.getD i 0 := a4 i (Nat.le_refl _)
      rw [hset, toNat_nat]
      have htake : (r.set m (s.getD i 0)).take (m + 1) = r.take m ++ [s.getD i 0] := by
        rw [take_snoc _ (by simp; omega), List.getElem_set_self, List.take_set_of_le (Nat.le_refl _)]
      refine TS.ret ⟨⟨m + 1, k, rfl, rfl, by omega, by omega, by simp; omega, fun q hq => ?_, ?_, fun y => ?_, hlow⟩, by dsimp only; omega⟩
      · dsimp only
        rw [getD_set_ne _ _ _ (by omega)]; exact a4 q (by omega)
      · dsimp only
        rw [htake]
        refine List.pairwise_append.2 ⟨a5, by simp, fun x hx y hy => ?_⟩
        simp only [List.mem_singleton] at hy
        subst hy
        rw [a6] at hx
        have hx' : x ∈ s.take i := List.count_pos_iff.1 (by omega)
        obtain ⟨j, hj, e⟩ := List.getElem_of_mem hx'
        simp only [List.length_take] at hj
        rw [List.getElem_take, ← getD_nat s j 0 (by omega)] at e
        rw [← e]
        exact a7 j i (by omega) (Nat.le_refl _) (by omega)
      · dsimp only
        rw [htake, List.mem_append, a6, List.mem_singleton, hcnt]
        by_cases e : y = s.getD i 0
        · subst e
          rw [hc0, if_pos rfl]; simp; omega
        · rw [if_neg (fun h => e h.symm), Nat.add_zero]; exact ⟨fun h => h.resolve_right e, .inl⟩
    · have ho' : (k - i) % 2 = 0 := by
        have : ¬ (((k - i) % 2 : Nat) : Int) = 1 := by simpa using ho
        omega
      refine TS.ret ⟨⟨m, k, rfl, rfl, by omega, by omega, a3, fun q hq => a4 q (by omega), a5, fun y => ?_, hlow⟩, by dsimp only; omega⟩
      dsimp only
      rw [a6, hcnt]
      by_cases e : s.getD i 0 = y
      · rw [if_pos e]; omega
      · rw [if_neg e, Nat.add_zero]
  · have hc' : ¬ (i : Int) < r.length := by rw [← ltI_iff, hc]; simp
    have : i = n := by omega
    subst this
    exact TS.ret ⟨m, rfl, a1, a2, a3, a4, a5, a6, a7⟩

theorem made_ok {l : List Int} (hl : l.length = n) : OS (anf_made N l) (fun y => y.1 ≤ y.2.length ∧ (y.2.drop 0).take y.1 = Mk l) := by
  unfold anf_made
  refine OS.of ?_
  unfold anf_made_T
  rw [clone_eq N hn hl]
  refine TS.call (P := fun x => x = l) ⟨_, rfl, rfl⟩ (fun x hx => ?_)
  subst hx
  refine TS.call (sort_ok N (by omega) hN hl) (fun s hs => ?_)
  have hsl : s.length = n := hs.1.length_eq.trans hl
  refine TS.call (made_l5 N hn hN hsl hs.2) (fun y hy => ?_)
  obtain ⟨m, e, h⟩ := hy
  rw [e]
  have h1 := h.len
  have h2 := h.mi
  refine TS.brT (by rw [Bool.and_eq_true, leI_iff, leI_iff]; omega) (TS.ret ⟨by rw [toNat_nat]; dsimp only; omega, ?_⟩)
  rw [toNat_nat, List.drop_zero, Mk_perm hs.1.symm]
  refine Mk_of h.ss fun y => ?_
  rw [h.mem, List.take_of_length_le (by omega)]
end
end Go.Proofs.YtkcimijkcmoonaaDoorV
