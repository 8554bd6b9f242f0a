/- The document's way: terms are put in one by one; what is a polynomial. -/
import Derived.Test.YtkcimijkcmoonaaDoorPAnfA
namespace Go.Proofs.YtkcimijkcmoonaaDoorV
set_option linter.unusedVariables false
set_option linter.unusedSimpArgs false

theorem tog_at {t : Int} : ∀ (l : List Int) (i : Nat), i ≤ l.length → (∀ j, j < i → l.getD j 0 < t) → (i < l.length → ¬ l.getD i 0 < t) →
    tog t l = if i < l.length ∧ l.getD i 0 = t then l.take i ++ l.drop (i + 1) else l.take i ++ t :: l.drop i
  | [], i, hi, _, _ => by
    obtain rfl : i = 0 := by simpa using hi
    simp [tog]
  | x :: l, 0, hi, _, h => by
    have h : ¬ x < t := h (by simp)
    unfold tog
    rw [if_neg h]
    by_cases e : x = t
    · rw [if_pos e, if_pos ⟨by simp, e⟩]; rfl
    · rw [if_neg e, if_neg (fun hh => e hh.2)]; rfl
  | x :: l, i + 1, hi, h1, h2 => by
    have h0 : x < t := h1 0 (by omega)
    unfold tog
    rw [if_pos h0, tog_at l i (by simpa using hi) (fun j hj => h1 (j + 1) (by omega)) (fun hlt => h2 (by simpa using hlt))]
    have e : (i + 1 < (x :: l).length ∧ (x :: l).getD (i + 1) 0 = t) ↔ (i < l.length ∧ l.getD i 0 = t) := by simp
    by_cases c : i < l.length ∧ l.getD i 0 = t
    · rw [if_pos c, if_pos (e.2 c)]; rfl
    · rw [if_neg c, if_neg (fun hh => c (e.1 hh))]; rfl

theorem bool_eq {a b : Bool} (h : a = true ↔ b = true) : (a == b) = true := by
  cases a <;> cases b <;> simp_all

section
variable (N : Nat) {n : Nat} (hn : (n : Int) < 4398046511104) (hN : n + 100 < N)
include hn hN

theorem put_ok {l : List Int} (hl : l.length ≤ n) (t : Int) : OS (bautaref34_put N l t) (fun r => r = tog t l) := by
  unfold bautaref34_put
  refine OS.of ?_
  unfold bautaref34_put_T
  have hloop : OS (bautaref34_put_l2 N l t 0) (fun y => ∃ i : Nat, y = i ∧ i ≤ l.length ∧ (∀ j, j < i → l.getD j 0 < t) ∧ (i < l.length → ¬ l.getD i 0 < t)) := by
    refine loop_os (fun y : Int => ∃ i : Nat, y = i ∧ i ≤ l.length ∧ ∀ j, j < i → l.getD j 0 < t) (fun y => l.length - y.toNat) _ ⟨0, rfl, Nat.zero_le _, fun j h => by omega⟩ (by (try dsimp only); omega) ?_
    rintro y ⟨i, rfl, h1, h2⟩
    unfold bautaref34_put_l2_T
    refine TS.br (fun hc => ?_) (fun hc => ?_)
    · rw [ltI_iff] at hc
      refine TS.brT (by rw [inRange_iff]; omega) (TS.br (fun he => ?_) (fun he => ?_))
      · rw [ltI_iff] at he
        have e : IntKind.i64.wrap ((i : Int) + 1) = ((i + 1 : Nat) : Int) := i64_succ (by omega)
        dsimp only
        rw [e]
        refine TS.ret ⟨⟨i + 1, rfl, by omega, fun j hj => ?_⟩, by (try dsimp only); omega⟩
        by_cases e : j = i
        · subst e; exact he
        · exact h2 j (by omega)
      · exact TS.ret ⟨i, rfl, h1, h2, fun _ hlt => by rw [← ltI_iff] at hlt; rw [toNat_nat] at he; rw [he] at hlt; cases hlt⟩
    · have hc' : ¬ (i : Int) < l.length := by rw [← ltI_iff, hc]; simp
      exact TS.ret ⟨i, rfl, h1, h2, fun h => absurd h (by omega)⟩
  refine TS.call hloop (fun y hy => ?_)
  obtain ⟨i, rfl, h1, h2, h3⟩ := hy
  have ht := tog_at l i h1 h2 h3
  have e1 : IntKind.i64.wrap ((i : Int) + 1) = ((i + 1 : Nat) : Int) := i64_succ (by omega)
  have j6 : tog t l = l.take i ++ t :: l.drop i → OS (bautaref34_put_j6 N l t i) (fun r => r = tog t l) := fun h => by
    unfold bautaref34_put_j6
    refine OS.of ?_
    unfold bautaref34_put_j6_T
    have c1 : (leI 0 (i : Int) && leI (i : Int) (l.length : Int)) = true := by rw [Bool.and_eq_true, leI_iff, leI_iff]; omega
    refine TS.brT c1 (TS.brT (by rw [ltI_iff]; simp; omega) (TS.brT (by rw [ltI_iff]; simp; omega) (TS.brT c1 (TS.brT (by rw [ltI_iff]; simp; omega) (TS.ret ?_)))))
    rw [h, toNat_nat]
    simp
  have no : TS (.call (bautaref34_put_j5 N l i false) fun y6 => .alt y6 (fun y7 => .ret y7) (fun y8 => .call (bautaref34_put_j6 N l t i) fun y9 => .ret y9)) (fun r => tog t l = l.take i ++ t :: l.drop i → r = tog t l) := by
    have e : bautaref34_put_j5 N l i false = some (.inr ()) := rfl
    rw [e]
    refine TS.callS (PA := fun _ => False) (PB := fun _ => True) (.inr ⟨(), rfl, trivial⟩) (fun _ h => h.elim) (fun _ _ => ?_)
    by_cases h : tog t l = l.take i ++ t :: l.drop i
    · exact TS.call (j6 h) (fun y hy => TS.ret (fun _ => hy))
    · have : ∃ r, bautaref34_put_j6 N l t i = some r := by
        unfold bautaref34_put_j6
        have c1 : (leI 0 (i : Int) && leI (i : Int) (l.length : Int)) = true := by rw [Bool.and_eq_true, leI_iff, leI_iff]; omega
        have : TS (bautaref34_put_j6_T N l t i) (fun _ => True) := by
          unfold bautaref34_put_j6_T
          exact TS.brT c1 (TS.brT (by rw [ltI_iff]; simp; omega) (TS.brT (by rw [ltI_iff]; simp; omega) (TS.brT c1 (TS.brT (by rw [ltI_iff]; simp; omega) (TS.ret trivial)))))
        obtain ⟨r, hr, _⟩ := this
        exact ⟨r, hr⟩
      obtain ⟨r, hr⟩ := this
      rw [hr]
      exact TS.call (P := fun _ => True) ⟨_, rfl, trivial⟩ (fun _ _ => TS.ret (fun h' => absurd h' h))
  refine TS.br (fun hc => ?_) (fun hc => ?_)
  · rw [ltI_iff] at hc
    refine TS.brT (by rw [inRange_iff]; omega) ?_
    rw [toNat_nat]
    by_cases he : l.getD i 0 = t
    · have he' : (l.getD i 0 == t) = true := by rw [he]; simp
      rw [if_pos ⟨by omega, he⟩] at ht
      dsimp only
      rw [he']
      have hj5 : OS (bautaref34_put_j5 N l i true) (EP (fun r => r = tog t l) (fun _ => False)) := by
        unfold bautaref34_put_j5
        refine OS.of ?_
        unfold bautaref34_put_j5_T
        have c1 : (leI 0 (i : Int) && leI (i : Int) (l.length : Int)) = true := by rw [Bool.and_eq_true, leI_iff, leI_iff]; omega
        refine TS.brT rfl (TS.brT c1 (TS.brT (by rw [ltI_iff]; simp; omega) ?_))
        rw [e1]
        have c2 : (leI 0 ((i + 1 : Nat) : Int) && leI ((i + 1 : Nat) : Int) (l.length : Int)) = true := by rw [Bool.and_eq_true, leI_iff, leI_iff]; omega
        refine TS.brT c2 (TS.brT (by rw [ltI_iff]; simp; omega) (TS.ret ?_))
        show _ = _
        rw [ht, toNat_nat, toNat_nat]
      exact TS.callS hj5.ep (fun r hr => TS.ret hr) (fun _ h => h.elim)
    · have he' : (l.getD i 0 == t) = false := by simpa using he
      rw [if_neg (fun h => he h.2)] at ht
      dsimp only
      rw [he']
      exact no.mono fun r hr => hr ht
  · have hc' : ¬ (i : Int) < l.length := by rw [← ltI_iff, hc]; simp
    rw [if_neg (fun h => absurd h.1 (by omega))] at ht
    exact no.mono fun r hr => hr ht

theorem refMake_ok {l : List Int} (hl : l.length = n) : OS (bautaref34_Make N l) (fun r => r = Mk l) := by
  unfold bautaref34_Make
  refine OS.of ?_
  unfold bautaref34_Make_T
  have hloop : OS (bautaref34_Make_l3 N l (0, [])) (fun r => r = Mk l) := by
    refine loop_os (fun x : Int × List Int => ∃ i : Nat, x.1 = i ∧ i ≤ n ∧ x.2 = Mk (l.take i)) (fun x => n - x.1.toNat) _ ⟨0, rfl, Nat.zero_le _, by simp [Mk]⟩ (by (try dsimp only); omega) ?_
    rintro ⟨i', r⟩ ⟨i, h1, h2, h3⟩
    dsimp only at h1 h2 h3 ⊢
    subst h1
    subst h3
    unfold bautaref34_Make_l3_T
    refine TS.br (fun hc => ?_) (fun hc => ?_)
    · rw [ltI_iff] at hc
      have e : IntKind.i64.wrap ((i : Int) + 1) = ((i + 1 : Nat) : Int) := i64_succ (by omega)
      have hlen : (Mk (l.take i)).length ≤ n := Nat.le_trans (Mk_len _) (by simp; omega)
      refine TS.brT (by rw [inRange_iff]; omega) (TS.call (put_ok N hn hN hlen _) (fun y hy => ?_))
      dsimp only
      rw [e]
      refine TS.ret ⟨⟨i + 1, rfl, by omega, ?_⟩, by (try dsimp only); omega⟩
      dsimp only
      rw [hy, toNat_nat, take_snoc _ (by omega), getD_nat l i 0 (by omega)]
      unfold Mk
      rw [List.foldl_append]
      rfl
    · have hc' : ¬ (i : Int) < l.length := by rw [← ltI_iff, hc]; simp
      refine TS.ret ?_
      show _ = _
      rw [List.take_of_length_le (by omega)]
  exact TS.call hloop (fun y hy => TS.ret hy)

omit hn hN in
theorem same_ok' {a b : List Int} {N : Nat} (hn : (a.length : Int) < 4398046511104) (hN : a.length + 2 < N) : OS (bautaref34_Same N a b) (fun y => y = true ↔ a = b) := by
  unfold bautaref34_Same
  refine OS.of ?_
  unfold bautaref34_Same_T
  refine TS.br (fun hc => TS.ret ?_) (fun hc => ?_)
  · have : (a.length : Int) ≠ b.length := by simpa using hc
    constructor
    · intro h; cases h
    · rintro rfl; exact absurd rfl this
  · have hlen : a.length = b.length := by
      have : (a.length : Int) = b.length := by simpa using hc
      omega
    have hloop : OS (bautaref34_Same_l4 N a b 0) (EP (fun _ => a ≠ b) (fun _ => a = b)) := by
      refine loop_os (fun y : Int => ∃ i : Nat, y = i ∧ i ≤ a.length ∧ ∀ j, j < i → a.getD j 0 = b.getD j 0) (fun y => a.length - y.toNat) _ ⟨0, rfl, Nat.zero_le _, fun j h => by omega⟩ (by (try dsimp only); omega) ?_
      rintro y ⟨i, rfl, h1, h2⟩
      unfold bautaref34_Same_l4_T
      refine TS.br (fun hc => ?_) (fun hc => ?_)
      · rw [ltI_iff] at hc
        refine TS.brT (by rw [inRange_iff]; omega) (TS.brT (by rw [inRange_iff]; omega) (TS.br (fun he => ?_) (fun he => ?_)))
        · have he' : a.getD i 0 ≠ b.getD i 0 := bne_iff_ne.1 he
          exact TS.ret (fun h => he' (by rw [h]))
        · have he' : a.getD i 0 = b.getD i 0 := by
            have := mt bne_iff_ne.2 (by rw [he]; simp)
            exact Decidable.not_not.1 this
          have e : IntKind.i64.wrap ((i : Int) + 1) = ((i + 1 : Nat) : Int) := i64_succ (by omega)
          dsimp only
          rw [e]
          refine TS.ret ⟨⟨i + 1, rfl, by omega, fun j hj => ?_⟩, by (try dsimp only); omega⟩
          by_cases e : j = i
          · subst e; exact he'
          · exact h2 j (by omega)
      · have hc' : ¬ (i : Int) < a.length := by rw [← ltI_iff, hc]; simp
        refine TS.ret ?_
        show a = b
        refine List.ext_getElem hlen fun j hj hj' => ?_
        have := h2 j (by omega)
        rwa [getD_nat a j 0 hj, getD_nat b j 0 hj'] at this
    exact TS.callS hloop.ep (fun _ h => TS.ret (by simpa using h)) (fun _ h => TS.ret (by simpa using h))

omit hn hN in
theorem can_ok {a : List Int} {N : Nat} (hn : (a.length : Int) < 4398046511104) (hN : a.length + 2 < N) : OS (anf_can N a) (fun y => y = true ↔ SS a) := by
  unfold anf_can
  refine OS.of ?_
  unfold anf_can_T
  have hloop : OS (anf_can_l2 N a a.length 0) (EP (fun _ => ¬ SS a) (fun _ => SS a)) := by
    refine loop_os (fun y : Int => ∃ i : Nat, y = i ∧ i ≤ a.length ∧ SS (a.take i)) (fun y => a.length - y.toNat) _ ⟨0, rfl, Nat.zero_le _, by simp⟩ (by (try dsimp only); omega) ?_
    rintro y ⟨i, rfl, h1, h2⟩
    unfold anf_can_l2_T
    have e : IntKind.i64.wrap ((i : Int) + 1) = ((i + 1 : Nat) : Int) := i64_succ (by omega)
    refine TS.br (fun hc => ?_) (fun hc => ?_)
    · rw [ltI_iff] at hc
      refine TS.br (fun h0 => ?_) (fun h0 => ?_)
      · rw [ltI_iff] at h0
        have e1 : IntKind.i64.wrap ((i : Int) - 1) = ((i - 1 : Nat) : Int) := by rw [i64_in (by omega)]; omega
        dsimp only
        rw [e1, e]
        refine TS.brT (by rw [inRange_iff]; omega) (TS.brT (by rw [inRange_iff]; omega) (TS.br (fun he => ?_) (fun he => ?_)))
        · rw [leI_iff, toNat_nat, toNat_nat, getD_nat a i 0 (by omega), getD_nat a (i - 1) 0 (by omega)] at he
          refine TS.ret (fun hs => ?_)
          have := List.pairwise_iff_getElem.1 hs (i - 1) i (by omega) (by omega) (by omega)
          omega
        · have he' : ¬ a.getD i 0 ≤ a.getD (i - 1) 0 := by
            intro hh
            have : leI (a.getD ((i : Nat) : Int).toNat 0) (a.getD ((i - 1 : Nat) : Int).toNat 0) = true := by rw [leI_iff]; exact hh
            rw [this] at he; cases he
          rw [getD_nat a i 0 (by omega), getD_nat a (i - 1) 0 (by omega)] at he'
          refine TS.ret ⟨⟨i + 1, rfl, by omega, ?_⟩, by (try dsimp only); omega⟩
          rw [take_snoc _ (by omega)]
          refine List.pairwise_append.2 ⟨h2, by simp, fun x hx y hy => ?_⟩
          simp only [List.mem_singleton] at hy
          subst hy
          obtain ⟨j, hj, e⟩ := List.getElem_of_mem hx
          simp only [List.length_take] at hj
          rw [List.getElem_take] at e
          have h3 : x ≤ a[i - 1] := by
            rcases Nat.lt_or_ge j (i - 1) with h | h
            · have := List.pairwise_iff_getElem.1 h2 j (i - 1) (by simp; omega) (by simp; omega) h
              rw [List.getElem_take, List.getElem_take] at this
              omega
            · obtain rfl : j = i - 1 := by omega
              omega
          omega
      · have h0' : ¬ 0 < (i : Int) := by rw [← ltI_iff, h0]; simp
        obtain rfl : i = 0 := by omega
        rw [e]
        refine TS.ret ⟨⟨0 + 1, rfl, by omega, ?_⟩, by (try dsimp only); omega⟩
        rw [take_snoc _ (by omega)]
        simp
    · have hc' : ¬ (i : Int) < a.length := by rw [← ltI_iff, hc]; simp
      refine TS.ret ?_
      show SS a
      rwa [List.take_of_length_le (by omega)] at h2
  exact TS.callS hloop.ep (fun _ h => TS.ret (by simpa using h)) (fun _ h => TS.ret (by simpa using h))

theorem refCan_ok {l : List Int} (hl : l.length = n) : OS (bautaref34_Can N l) (fun y => y = true ↔ SS l) := by
  unfold bautaref34_Can
  refine OS.of ?_
  unfold bautaref34_Can_T
  refine TS.call (refMake_ok N hn hN hl) (fun y hy => ?_)
  subst hy
  have hlen := Mk_len l
  refine TS.call (same_ok' (by omega) (by omega)) (fun z hz => TS.ret ?_)
  rw [hz]
  exact ⟨fun h => h ▸ Mk_ss l, Mk_id⟩

/-- A polynomial as the program takes it: itself, or what is made of it. -/
theorem poly_ok {l : List Int} (hl : l.length = n) : OS2 (anf_poly N l) (fun _ => Mk l = l) (fun y => y.1 ≤ y.2.length ∧ (y.2.drop 0).take y.1 = Mk l) := by
  unfold anf_poly
  refine OS.ep (OS.of ?_)
  unfold anf_poly_T
  refine TS.call (can_ok (by omega) (by omega)) (fun y hy => TS.br (fun h => TS.ret (Mk_id (hy.1 h))) (fun _ => TS.call (made_ok N (by omega) hN hl) (fun z hz => TS.ret hz)))

omit hn hN in
theorem short_eq (N : Nat) (l : List Int) : bautalaw34_short N l = some (l.take 120) := by
  have key : TS (bautalaw34_short_T N l) (fun y => y = l.take 120) := by
    unfold bautalaw34_short_T
    refine TS.br (fun hc => ?_) (fun hc => ?_)
    · rw [ltI_iff] at hc
      exact TS.brT (by rw [Bool.and_eq_true, leI_iff, leI_iff]; omega) (TS.brT (by rw [ltI_iff]; simp; omega) (TS.ret rfl))
    · have hc' : ¬ (120 : Int) < l.length := by rw [← ltI_iff, hc]; simp
      exact TS.brT (by rw [ltI_iff]; omega) (TS.ret (by rw [List.take_of_length_le (by omega)]))
  obtain ⟨y, h, rfl⟩ := key
  exact h
omit hn hN in
theorem TS.short {α : Type} {N : Nat} {l : List Int} {f : List Int → Tree α} {Q : α → Prop} (h : TS (f (l.take 120)) Q) : TS (.call (bautalaw34_short N l) f) Q := by
  rw [short_eq]
  exact h
end

theorem anf_lives (m : Nat) : bautalaw34_lives (m + 200) = some true := by kernel_rfl

/-- The law: which polynomial any terms are, and what is one. -/
theorem anfMakes_law' {N : Nat} (hN : 300 < N) (x : List Int) : bautalaw34_AnfMakes N x = some true := by
  obtain ⟨m, rfl⟩ : ∃ m, N = m + 200 := ⟨N - 200, by omega⟩
  have key : TS (bautalaw34_AnfMakes_T (m + 200) x) (fun y => y = true) := by
    unfold bautalaw34_AnfMakes_T
    refine TS.short (TS.short ?_)
    have e : (x.take 120).take 120 = x.take 120 := by rw [List.take_take]; simp
    rw [e]
    generalize hl : x.take 120 = l
    have hn : l.length ≤ 120 := by rw [← hl]; simp; omega
    refine TS.call (OS.of (t := anf_Make_T (m + 200) l) (TS.call (made_ok (m + 200) (n := l.length) (by omega) (by omega) rfl) (fun y hy => TS.ret (a := (y.1, y.2)) (Q := fun y => y.1 ≤ y.2.length ∧ (y.2.drop 0).take y.1 = Mk l) hy))) (fun p hp => ?_)
    refine TS.call (refMake_ok (m + 200) (n := l.length) (by omega) (by omega) rfl) (fun r hr => ?_)
    subst hr
    have hmk := Mk_len l
    rw [hp.2]
    refine TS.call (same_ok' (by omega) (by omega)) (fun s hs => TS.brT (hs.2 rfl) (TS.short ?_))
    rw [List.take_of_length_le hn]
    refine TS.call (OS.of (t := anf_Can_T (m + 200) l) (TS.call (can_ok (N := m + 200) (a := l) (by omega) (by omega)) (fun y hy => TS.ret (Q := fun y => y = true ↔ SS l) hy))) (fun c hc => ?_)
    refine TS.call (refCan_ok (m + 200) (n := l.length) (by omega) (by omega) rfl) (fun d hd => TS.brT (bool_eq (hc.trans hd.symm)) ?_)
    refine TS.call (OS.of (t := anf_Can_T (m + 200) (Mk l)) (TS.call (can_ok (N := m + 200) (a := Mk l) (by omega) (by omega)) (fun y hy => TS.ret (Q := fun y => y = true ↔ SS (Mk l)) hy))) (fun f hf => TS.brT (hf.2 (Mk_ss l)) ?_)
    rw [anf_lives]
    exact TS.call (P := fun y => y = true) ⟨_, rfl, rfl⟩ (fun y hy => TS.ret hy)
  obtain ⟨y, h, rfl⟩ := key
  exact h
theorem anfMakes_law (x : List Int) (w : WF (.list (.int .u64)) x) : bautalaw34_AnfMakes 100002 x = some true := anfMakes_law' (by omega) x
end Go.Proofs.YtkcimijkcmoonaaDoorV
