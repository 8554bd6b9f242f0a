/- Sums and products, and how great they are. -/
import Derived.Test.YtkcimijkcmoonaaDoorPAnfD
namespace Go.Proofs.YtkcimijkcmoonaaDoorV
set_option linter.unusedVariables false
set_option linter.unusedSimpArgs false

def deg (l : List Int) : Int := l.foldl (fun d t => if cnt t > d then cnt t else d) (-1)
def vars (l : List Int) : Int := l.foldl orI 0

theorem prods_u64 {a b : List Int} : ∀ t ∈ prods a b, U64 t := by
  intro t ht
  unfold prods at ht
  simp only [List.mem_flatMap, List.mem_map] at ht
  obtain ⟨x, _, y, _, rfl⟩ := ht
  exact orI_u64 x y

/-! ### How great -/
theorem deg_snoc (l : List Int) (t : Int) : deg (l ++ [t]) = if cnt t > deg l then cnt t else deg l := by
  unfold deg; rw [List.foldl_append]; rfl
theorem vars_snoc (l : List Int) (t : Int) : vars (l ++ [t]) = orI (vars l) t := by
  unfold vars; rw [List.foldl_append]; rfl


section
variable (N : Nat) {n : Nat} (hn : (n : Int) < 4398046511104) (hN : n + 100 < N)
include hn hN

theorem refMul_ok {a b : List Int} (ha : a.length ≤ 120) (hb : b.length ≤ 120) (hn2 : 14400 ≤ n) :
    OS (bautaref34_Mul N a b) (fun y => y = if 4096 < (Mk (prods (Mk a) (Mk b))).length then (150, []) else (0, Mk (prods (Mk a) (Mk b)))) := by
  unfold bautaref34_Mul
  refine OS.of ?_
  unfold bautaref34_Mul_T
  refine TS.call (refMake_ok N (n := a.length) (by omega) (by omega) rfl) (fun p hp => TS.call (refMake_ok N (n := b.length) (by omega) (by omega) rfl) (fun q hq => ?_))
  have hpl : p.length ≤ 120 := by rw [hp]; exact Nat.le_trans (Mk_len a) ha
  have hql : q.length ≤ 120 := by rw [hq]; exact Nat.le_trans (Mk_len b) hb
  rw [← hp, ← hq]
  have hle : p.length * q.length ≤ 120 * 120 := Nat.mul_le_mul hpl hql
  have e0 : IntKind.i64.wrap ((p.length : Int) * q.length) = ((p.length * q.length : Nat) : Int) := by rw [← Int.natCast_mul, i64_in (by omega)]
  dsimp only
  rw [e0]
  have Mk_app : ∀ (l r : List Int), Mk (l ++ r) = r.foldl (fun acc t => tog t acc) (Mk l) := fun l r => by unfold Mk; rw [List.foldl_append]
  have inner : ∀ (i : Nat) (pre : List Int), i < p.length → pre.length ≤ 14280 → OS (bautaref34_Mul_l9 N i p q (0, Mk pre)) (fun y => y = Mk (pre ++ q.map (orI (p.getD i 0)))) := by
    intro i pre hi hpre
    refine loop_os (fun v : Int × List Int => ∃ k : Nat, v.1 = k ∧ k ≤ q.length ∧ v.2 = Mk (pre ++ (q.take k).map (orI (p.getD i 0)))) (fun v => q.length - v.1.toNat) _ ⟨0, rfl, Nat.zero_le _, by simp⟩ (by (try dsimp only); omega) ?_
    rintro ⟨k', s⟩ ⟨k, h1, h2, h3⟩
    dsimp only at h1 h2 h3 ⊢
    subst h1
    subst h3
    unfold bautaref34_Mul_l9_T
    have e : IntKind.i64.wrap ((k : Int) + 1) = ((k + 1 : Nat) : Int) := i64_succ (by omega)
    refine TS.br (fun hc => ?_) (fun hc => ?_)
    · rw [ltI_iff] at hc
      have hlen : (Mk (pre ++ (q.take k).map (orI (p.getD i 0)))).length ≤ n := Nat.le_trans (Mk_len _) (by simp; omega)
      refine TS.brT (by rw [inRange_iff]; omega) (TS.brT (by rw [inRange_iff]; omega) (TS.call (put_ok N hn hN hlen _) (fun y hy => ?_)))
      rw [e]
      refine TS.ret ⟨⟨k + 1, rfl, by omega, ?_⟩, by (try dsimp only); omega⟩
      rw [hy, toNat_nat, toNat_nat, take_snoc _ (by omega), getD_nat q k 0 (by omega), List.map_append, ← List.append_assoc, Mk_app (pre ++ _)]
      rfl
    · have hc' : ¬ (k : Int) < q.length := by rw [← ltI_iff, hc]; simp
      refine TS.ret ?_
      show _ = _
      rw [List.take_of_length_le (by omega)]
  have hloop : OS (bautaref34_Mul_l6 N p q (0, [])) (fun y => y = Mk (prods p q)) := by
    refine loop_os (fun v : Int × List Int => ∃ i : Nat, v.1 = i ∧ i ≤ p.length ∧ v.2 = Mk (prods (p.take i) q)) (fun v => p.length - v.1.toNat) _ ⟨0, rfl, Nat.zero_le _, by simp [prods, Mk]⟩ (by (try dsimp only); omega) ?_
    rintro ⟨i', s⟩ ⟨i, h1, h2, h3⟩
    dsimp only at h1 h2 h3 ⊢
    subst h1
    subst h3
    unfold bautaref34_Mul_l6_T
    have e : IntKind.i64.wrap ((i : Int) + 1) = ((i + 1 : Nat) : Int) := i64_succ (by omega)
    refine TS.br (fun hc => ?_) (fun hc => ?_)
    · rw [ltI_iff] at hc
      have hlen : (prods (p.take i) q).length ≤ 14280 := by
        rw [prods_len, List.length_take]
        exact Nat.le_trans (Nat.mul_le_mul (by omega : min i p.length ≤ 119) hql) (by omega)
      refine TS.call (inner i _ (by omega) hlen) (fun y hy => ?_)
      rw [e]
      subst hy
      refine TS.ret ⟨⟨i + 1, rfl, by omega, ?_⟩, by (try dsimp only); omega⟩
      rw [take_snoc _ (by omega), getD_nat p i 0 (by omega)]
      simp only [prods, List.flatMap_append, List.flatMap_cons, List.flatMap_nil, List.append_nil]
    · have hc' : ¬ (i : Int) < p.length := by rw [← ltI_iff, hc]; simp
      refine TS.ret ?_
      show _ = _
      rw [List.take_of_length_le (by omega)]
  refine TS.brF (by rw [ltI_eq, decide_eq_false_iff_not]; omega) (TS.call hloop (fun y hy => ?_))
  subst hy
  refine TS.br (fun hc => ?_) (fun hc => ?_)
  · rw [ltI_iff] at hc
    exact TS.ret (by rw [if_pos (by omega)])
  · have hc' : ¬ (4096 : Int) < (Mk (prods p q)).length := by rw [← ltI_iff, hc]; simp
    exact TS.ret (by rw [if_neg (by omega)])

theorem refAdd_ok {a b : List Int} (ha : a.length ≤ 120) (hb : b.length ≤ 120) (hn2 : 14400 ≤ n) : OS (bautaref34_Add N a b) (fun r => r = Mk (a ++ b)) := by
  unfold bautaref34_Add
  refine OS.of ?_
  unfold bautaref34_Add_T
  exact TS.brT (by rw [ltI_iff]; omega) (TS.brT (by rw [ltI_iff]; omega) (TS.call (refMake_ok N (n := (a ++ b).length) (by rw [List.length_append]; omega) (by rw [List.length_append]; omega) rfl) (fun y hy => TS.ret hy)))

theorem Degree_ok {l : List Int} (hl : l.length ≤ 120) (hw : ∀ t ∈ l, U64 t) (hn2 : 14400 ≤ n) : OS (anf_Degree N l) (fun y => y = deg (Mk l)) := by
  unfold anf_Degree
  refine OS.of ?_
  unfold anf_Degree_T
  refine TS.callS (poly_ok N (n := l.length) (by omega) (by omega) rfl) (fun _ e => ?_) (fun y hy => ?_)
  · have hloop : OS (anf_Degree_l3 N l l.length (-1, 0)) (fun y => y = deg l) := by
      refine loop_os (fun v : Int × Int => ∃ i : Nat, v.2 = i ∧ i ≤ l.length ∧ v.1 = deg (l.take i)) (fun v => l.length - v.2.toNat) _ ⟨0, rfl, Nat.zero_le _, rfl⟩ (by (try dsimp only); omega) ?_
      rintro ⟨d, i'⟩ ⟨i, h1, h2, h3⟩
      dsimp only at h1 h2 h3 ⊢
      subst h1; subst h3
      unfold anf_Degree_l3_T
      have e : IntKind.i64.wrap ((i : Int) + 1) = ((i + 1 : Nat) : Int) := i64_succ (by omega)
      refine TS.br (fun hc => ?_) (fun hc => ?_)
      · rw [ltI_iff] at hc
        refine TS.brT (by rw [inRange_iff]; omega) ?_
        rw [toNat_nat, getD_nat l i 0 (by omega)]
        refine TS.eqv (ones_eq N (hw _ (List.getElem_mem _))) ?_
        dsimp only
        rw [e]
        refine TS.ret ⟨⟨i + 1, rfl, by omega, ?_⟩, by (try dsimp only); omega⟩
        rw [take_snoc _ (by omega), deg_snoc]
        try rfl
      · have hc' : ¬ (i : Int) < l.length := by rw [← ltI_iff, hc]; simp
        refine TS.ret ?_
        show _ = _
        rw [List.take_of_length_le (by omega)]
    rw [e]
    exact TS.call hloop (fun y h => TS.ret h)
  · obtain ⟨y1, y2⟩ := hy
    rw [List.drop_zero] at y2
    have hml := Mk_len l
    have hlen : y.1 = (Mk l).length := by rw [← y2]; simp; omega
    have hget : ∀ i, i < y.1 → y.2.getD (0 + i) 0 = (Mk l).getD i 0 := fun i hi => by rw [← y2, getD_take _ _ hi, Nat.zero_add]
    have hw : ∀ t ∈ Mk l, U64 t := fun t ht => hw t (Mk_sub ht)
    generalize Mk l = m at *
    obtain ⟨k, r⟩ := y
    dsimp only at *
    subst hlen
    have hloop : OS (anf_Degree_l3b N 0 m.length m.length r (-1, 0)) (fun y => y = deg m) := by
      refine loop_os (fun v : Int × Int => ∃ i : Nat, v.2 = i ∧ i ≤ m.length ∧ v.1 = deg (m.take i)) (fun v => m.length - v.2.toNat) _ ⟨0, rfl, Nat.zero_le _, rfl⟩ (by (try dsimp only); omega) ?_
      rintro ⟨d, i'⟩ ⟨i, h1, h2, h3⟩
      dsimp only at h1 h2 h3 ⊢
      subst h1; subst h3
      unfold anf_Degree_l3b_T
      have e : IntKind.i64.wrap ((i : Int) + 1) = ((i + 1 : Nat) : Int) := i64_succ (by omega)
      refine TS.br (fun hc => ?_) (fun hc => ?_)
      · rw [ltI_iff] at hc
        refine TS.brT (by rw [inRange_iff]; omega) ?_
        rw [toNat_nat, hget i (by omega), getD_nat m i 0 (by omega)]
        refine TS.eqv (ones_eq N (hw _ (List.getElem_mem _))) ?_
        dsimp only
        rw [e]
        refine TS.ret ⟨⟨i + 1, rfl, by omega, ?_⟩, by (try dsimp only); omega⟩
        rw [take_snoc _ (by omega), deg_snoc]
        try rfl
      · have hc' : ¬ (i : Int) < m.length := by rw [← ltI_iff, hc]; simp
        refine TS.ret ?_
        show _ = _
        rw [List.take_of_length_le (by omega)]
    exact TS.call hloop (fun y h => TS.ret h)

theorem Vars_ok {l : List Int} (hl : l.length ≤ 120) (hw : ∀ t ∈ l, U64 t) (hn2 : 14400 ≤ n) : OS (anf_Vars N l) (fun y => y = vars (Mk l)) := by
  unfold anf_Vars
  refine OS.of ?_
  unfold anf_Vars_T
  refine TS.callS (poly_ok N (n := l.length) (by omega) (by omega) rfl) (fun _ e => ?_) (fun y hy => ?_)
  · have hloop : OS (anf_Vars_l3 N l l.length (0, 0)) (fun y => y = vars l) := by
      refine loop_os (fun v : Int × Int => ∃ i : Nat, v.2 = i ∧ i ≤ l.length ∧ v.1 = vars (l.take i)) (fun v => l.length - v.2.toNat) _ ⟨0, rfl, Nat.zero_le _, rfl⟩ (by (try dsimp only); omega) ?_
      rintro ⟨d, i'⟩ ⟨i, h1, h2, h3⟩
      dsimp only at h1 h2 h3 ⊢
      subst h1; subst h3
      unfold anf_Vars_l3_T
      have e : IntKind.i64.wrap ((i : Int) + 1) = ((i + 1 : Nat) : Int) := i64_succ (by omega)
      refine TS.br (fun hc => ?_) (fun hc => ?_)
      · rw [ltI_iff] at hc
        refine TS.brT (by rw [inRange_iff]; omega) ?_
        rw [toNat_nat, getD_nat l i 0 (by omega)]
        skip
        dsimp only
        rw [e]
        refine TS.ret ⟨⟨i + 1, rfl, by omega, ?_⟩, by (try dsimp only); omega⟩
        rw [take_snoc _ (by omega), vars_snoc]
        try rfl
      · have hc' : ¬ (i : Int) < l.length := by rw [← ltI_iff, hc]; simp
        refine TS.ret ?_
        show _ = _
        rw [List.take_of_length_le (by omega)]
    rw [e]
    exact TS.call hloop (fun y h => TS.ret h)
  · obtain ⟨y1, y2⟩ := hy
    rw [List.drop_zero] at y2
    have hml := Mk_len l
    have hlen : y.1 = (Mk l).length := by rw [← y2]; simp; omega
    have hget : ∀ i, i < y.1 → y.2.getD (0 + i) 0 = (Mk l).getD i 0 := fun i hi => by rw [← y2, getD_take _ _ hi, Nat.zero_add]
    have hw : ∀ t ∈ Mk l, U64 t := fun t ht => hw t (Mk_sub ht)
    generalize Mk l = m at *
    obtain ⟨k, r⟩ := y
    dsimp only at *
    subst hlen
    have hloop : OS (anf_Vars_l3b N 0 m.length m.length r (0, 0)) (fun y => y = vars m) := by
      refine loop_os (fun v : Int × Int => ∃ i : Nat, v.2 = i ∧ i ≤ m.length ∧ v.1 = vars (m.take i)) (fun v => m.length - v.2.toNat) _ ⟨0, rfl, Nat.zero_le _, rfl⟩ (by (try dsimp only); omega) ?_
      rintro ⟨d, i'⟩ ⟨i, h1, h2, h3⟩
      dsimp only at h1 h2 h3 ⊢
      subst h1; subst h3
      unfold anf_Vars_l3b_T
      have e : IntKind.i64.wrap ((i : Int) + 1) = ((i + 1 : Nat) : Int) := i64_succ (by omega)
      refine TS.br (fun hc => ?_) (fun hc => ?_)
      · rw [ltI_iff] at hc
        refine TS.brT (by rw [inRange_iff]; omega) ?_
        rw [toNat_nat, hget i (by omega), getD_nat m i 0 (by omega)]
        skip
        dsimp only
        rw [e]
        refine TS.ret ⟨⟨i + 1, rfl, by omega, ?_⟩, by (try dsimp only); omega⟩
        rw [take_snoc _ (by omega), vars_snoc]
        try rfl
      · have hc' : ¬ (i : Int) < m.length := by rw [← ltI_iff, hc]; simp
        refine TS.ret ?_
        show _ = _
        rw [List.take_of_length_le (by omega)]
    exact TS.call hloop (fun y h => TS.ret h)

theorem refDegree_ok {l : List Int} (hl : l.length ≤ 120) (hw : ∀ t ∈ l, U64 t) (hn2 : 14400 ≤ n) : OS (bautaref34_Degree N l) (fun y => y = deg (Mk l)) := by
  unfold bautaref34_Degree
  refine OS.of ?_
  unfold bautaref34_Degree_T
  refine TS.call (refMake_ok N (n := l.length) (by omega) (by omega) rfl) (fun m hm => ?_)
  have hml := Mk_len l
  have hw : ∀ t ∈ m, U64 t := fun t ht => hw t (Mk_sub (hm ▸ ht))
  rw [← hm] at hml ⊢
  clear hm
  have inner : ∀ i : Nat, i < m.length → OS (bautaref34_Degree_l7 N i m (0, 0)) (fun y => y = cnt (m.getD i 0)) := by
    intro i hi
    have ht : U64 (m.getD i 0) := by rw [getD_nat m i 0 hi]; exact hw _ (List.getElem_mem hi)
    refine loop_os (fun v : Int × Int => ∃ k : Nat, v.2 = k ∧ k ≤ 64 ∧ v.1 = ((List.range k).countP (fun j => (m.getD i 0).toNat.testBit j) : Nat)) (fun v => 64 - v.2.toNat) _ ⟨0, rfl, by omega, rfl⟩ (by (try dsimp only); omega) ?_
    rintro ⟨c, k'⟩ ⟨k, h1, h2, h3⟩
    dsimp only at h1 h2 h3 ⊢
    subst h1; subst h3
    unfold bautaref34_Degree_l7_T
    have e : IntKind.i64.wrap ((k : Int) + 1) = ((k + 1 : Nat) : Int) := i64_succ (by omega)
    have hle : (List.range k).countP (fun j => (m.getD i 0).toNat.testBit j) ≤ k := by
      have := List.countP_le_length (p := fun j => (m.getD i 0).toNat.testBit j) (l := List.range k)
      simpa using this
    refine TS.br (fun hc => ?_) (fun hc => ?_)
    · rw [ltI_iff] at hc
      refine TS.brT (by rw [inRange_iff]; omega) ?_
      rw [toNat_nat]
      refine TS.eqv (bit_eq N ht.1 (by omega)) ?_
      dsimp only
      rw [e]
      refine TS.br (fun hb => ?_) (fun hb => ?_)
      · have e2 : IntKind.i64.wrap (((List.range k).countP (fun j => (m.getD i 0).toNat.testBit j) : Nat) + 1) = (((List.range k).countP (fun j => (m.getD i 0).toNat.testBit j) + 1 : Nat) : Int) := i64_succ (by omega)
        rw [e2]
        refine TS.ret ⟨⟨k + 1, rfl, by omega, ?_⟩, by (try dsimp only); omega⟩
        rw [List.range_succ, List.countP_append]
        simp [hb, -List.getD_eq_getElem?_getD]
      · refine TS.ret ⟨⟨k + 1, rfl, by omega, ?_⟩, by (try dsimp only); omega⟩
        rw [List.range_succ, List.countP_append]
        simp [hb, -List.getD_eq_getElem?_getD]
    · have hc' : ¬ (k : Int) < 64 := by rw [← ltI_iff, hc]; simp
      obtain rfl : k = 64 := by omega
      exact TS.ret rfl
  have hloop : OS (bautaref34_Degree_l3 N m (-1, 0)) (fun y => y = deg m) := by
    refine loop_os (fun v : Int × Int => ∃ i : Nat, v.2 = i ∧ i ≤ m.length ∧ v.1 = deg (m.take i)) (fun v => m.length - v.2.toNat) _ ⟨0, rfl, Nat.zero_le _, rfl⟩ (by (try dsimp only); omega) ?_
    rintro ⟨d, i'⟩ ⟨i, h1, h2, h3⟩
    dsimp only at h1 h2 h3 ⊢
    subst h1; subst h3
    unfold bautaref34_Degree_l3_T
    have e : IntKind.i64.wrap ((i : Int) + 1) = ((i + 1 : Nat) : Int) := i64_succ (by omega)
    refine TS.br (fun hc => ?_) (fun hc => ?_)
    · rw [ltI_iff] at hc
      refine TS.call (inner i (by omega)) (fun y hy => ?_)
      have step : deg (m.take (i + 1)) = if cnt (m.getD i 0) > deg (m.take i) then cnt (m.getD i 0) else deg (m.take i) := by
        rw [take_snoc _ (by omega), deg_snoc, getD_nat m i 0 (by omega)]
      rw [e]
      subst hy
      refine TS.br (fun hb => ?_) (fun hb => ?_)
      · rw [ltI_iff] at hb
        exact TS.ret ⟨⟨i + 1, rfl, by omega, by rw [step, if_pos (by omega)]⟩, by (try dsimp only); omega⟩
      · have hb' : ¬ deg (m.take i) < cnt (m.getD i 0) := by rw [← ltI_iff, hb]; simp
        exact TS.ret ⟨⟨i + 1, rfl, by omega, by rw [step, if_neg (by omega)]⟩, by (try dsimp only); omega⟩
    · have hc' : ¬ (i : Int) < m.length := by rw [← ltI_iff, hc]; simp
      refine TS.ret ?_
      show _ = _
      rw [List.take_of_length_le (by omega)]
  exact TS.call hloop (fun y h => TS.ret h)

theorem refVars_ok {l : List Int} (hl : l.length ≤ 120) (hn2 : 14400 ≤ n) : OS (bautaref34_Vars N l) (fun y => y = vars (Mk l)) := by
  unfold bautaref34_Vars
  refine OS.of ?_
  unfold bautaref34_Vars_T
  refine TS.call (refMake_ok N (n := l.length) (by omega) (by omega) rfl) (fun m hm => ?_)
  have hml := Mk_len l
  rw [← hm] at hml ⊢
  clear hm
  have hloop : OS (bautaref34_Vars_l3 N m (0, 0)) (fun y => y = vars m) := by
    refine loop_os (fun v : Int × Int => ∃ i : Nat, v.2 = i ∧ i ≤ m.length ∧ v.1 = vars (m.take i)) (fun v => m.length - v.2.toNat) _ ⟨0, rfl, Nat.zero_le _, rfl⟩ (by (try dsimp only); omega) ?_
    rintro ⟨d, i'⟩ ⟨i, h1, h2, h3⟩
    dsimp only at h1 h2 h3 ⊢
    subst h1; subst h3
    unfold bautaref34_Vars_l3_T
    have e : IntKind.i64.wrap ((i : Int) + 1) = ((i + 1 : Nat) : Int) := i64_succ (by omega)
    refine TS.br (fun hc => ?_) (fun hc => ?_)
    · rw [ltI_iff] at hc
      refine TS.brT (by rw [inRange_iff]; omega) ?_
      rw [toNat_nat, getD_nat m i 0 (by omega), e]
      refine TS.ret ⟨⟨i + 1, rfl, by omega, ?_⟩, by (try dsimp only); omega⟩
      rw [take_snoc _ (by omega), vars_snoc]
      rfl
    · have hc' : ¬ (i : Int) < m.length := by rw [← ltI_iff, hc]; simp
      refine TS.ret ?_
      show _ = _
      rw [List.take_of_length_le (by omega)]
  exact TS.call hloop (fun y h => TS.ret h)
end

/-- The law: sums and products, and how great they are. -/
theorem anfReckons_law' {N : Nat} (hN : 20000 < N) (a b : List Int) (ha : ∀ t ∈ a, U64 t) (hb : ∀ t ∈ b, U64 t) : bautalaw34_AnfReckons N a b = some true := by
  obtain ⟨m, rfl⟩ : ∃ m, N = m + 200 := ⟨N - 200, by omega⟩
  have key : TS (bautalaw34_AnfReckons_T (m + 200) a b) (fun y => y = true) := by
    unfold bautalaw34_AnfReckons_T
    refine TS.short (TS.short (TS.short (TS.short ?_)))
    have e : ∀ l : List Int, (l.take 120).take 120 = l.take 120 := fun l => by rw [List.take_take]; simp
    have ea := e a
    have eb := e b
    rw [ea, eb]
    have ha' : ∀ t ∈ a.take 120, U64 t := fun t ht => ha t (List.mem_of_mem_take ht)
    have hb' : ∀ t ∈ b.take 120, U64 t := fun t ht => hb t (List.mem_of_mem_take ht)
    have hla : (a.take 120).length ≤ 120 := by simp; omega
    have hlb : (b.take 120).length ≤ 120 := by simp; omega
    generalize a.take 120 = p at ha' hla ea
    generalize b.take 120 = q at hb' hlb eb
    have h14 : ((14400 : Nat) : Int) < 4398046511104 := by decide
    have hNN : 14400 + 100 < m + 200 := by omega
    have lives := anf_lives m
    have hsl : ∀ r : List Int, r = Mk (p ++ q) → r.length ≤ 240 := fun r hr => by
      have := Mk_len (p ++ q)
      rw [hr]; rw [List.length_append] at this; omega
    -- what follows, whatever the product
    have rest : TS (.call (bautalaw34_short (m + 200) p) fun y16 => .call (anf_Degree (m + 200) y16) fun y17 => .call (bautaref34_Degree (m + 200) p) fun y18 => .br (y17 == y18) (.call (bautalaw34_short (m + 200) p) fun y20 => .call (anf_Vars (m + 200) y20) fun y21 => .call (bautaref34_Vars (m + 200) p) fun y22 => .br (y21 == y22) (.call (bautalaw34_lives (m + 200)) fun y24 => .ret y24) (.ret false)) (.ret false)) (fun y : Bool => y = true) := by
      refine TS.short ?_
      rw [ea]
      refine TS.call (Degree_ok (m + 200) h14 hNN hla ha' (Nat.le_refl _)) (fun d hd => TS.call (refDegree_ok (m + 200) h14 hNN hla ha' (Nat.le_refl _)) (fun d' hd' => TS.brT (by rw [hd, hd']; simp) (TS.short ?_)))
      rw [ea]
      refine TS.call (Vars_ok (m + 200) h14 hNN hla ha' (Nat.le_refl _)) (fun d hd => TS.call (refVars_ok (m + 200) h14 hNN hla (Nat.le_refl _)) (fun d' hd' => TS.brT (by rw [hd, hd']; simp) (TS.eqv lives (TS.ret rfl))))
    refine TS.callS (Mul_ok (m + 200) h14 hNN hla hlb (Nat.le_refl _)) (fun _ hbig => ?_) (fun y hy => ?_)
    · refine TS.call (refMul_ok (m + 200) h14 hNN hla hlb (Nat.le_refl _)) (fun z hz => TS.short (TS.short ?_))
      rw [if_pos hbig] at hz
      subst hz
      rw [ea, eb]
      refine TS.call (Add_ok (m + 200) h14 hNN hla hlb (Nat.le_refl _)) (fun r hr => TS.call (refAdd_ok (m + 200) h14 hNN hla hlb (Nat.le_refl _)) (fun r' hr' => ?_))
      have hrl := hsl r hr
      refine TS.call (same_ok' (by omega) (by omega)) (fun s hs => TS.brT (hs.2 (by rw [hr, hr'])) ?_)
      refine TS.call (same_ok' (a := []) (b := []) (by simp) (by simp)) (fun s hs => TS.brT (hs.2 rfl) (TS.brT (by simp) rest))
    · refine TS.call (refMul_ok (m + 200) h14 hNN hla hlb (Nat.le_refl _)) (fun z hz => TS.short (TS.short ?_))
      rw [if_neg (by omega)] at hz
      subst hz
      rw [ea, eb]
      refine TS.call (Add_ok (m + 200) h14 hNN hla hlb (Nat.le_refl _)) (fun r hr => TS.call (refAdd_ok (m + 200) h14 hNN hla hlb (Nat.le_refl _)) (fun r' hr' => ?_))
      have hrl := hsl r hr
      refine TS.call (same_ok' (by omega) (by omega)) (fun s hs => TS.brT (hs.2 (by rw [hr, hr'])) ?_)
      have h2 := hy.2
      refine TS.call (same_ok' (by rw [h2]; omega) (by rw [h2]; omega)) (fun s hs => TS.brT (hs.2 h2) (TS.brT (by simp) rest))
  obtain ⟨y, h, rfl⟩ := key
  exact h
theorem anfReckons_law (a : List Int) (wa : WF (.list (.int .u64)) a) (b : List Int) (wb : WF (.list (.int .u64)) b) : bautalaw34_AnfReckons 100002 a b = some true :=
  anfReckons_law' (by omega) a b (fun t ht => wf_u64 (wa.2 t ht)) (fun t ht => wf_u64 (wb.2 t ht))
end Go.Proofs.YtkcimijkcmoonaaDoorV
