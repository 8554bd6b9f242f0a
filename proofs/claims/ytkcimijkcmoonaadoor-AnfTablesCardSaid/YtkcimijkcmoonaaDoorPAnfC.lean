/- A polynomial's values; sums and products. -/
import Derived.Test.YtkcimijkcmoonaaDoorPAnfB
namespace Go.Proofs.YtkcimijkcmoonaaDoorV
set_option linter.unusedVariables false
set_option linter.unusedSimpArgs false

abbrev U64 (t : Int) : Prop := 0 ≤ t ∧ t < 18446744073709551616
/-- Is a term within a place? -/
def sub (t x : Int) : Bool := (IntKind.u64.wrap (((BitVec.ofInt 64 t) &&& ~~~ (BitVec.ofInt 64 x)).toNat : Int) == 0)
def orI (x y : Int) : Int := IntKind.u64.wrap (((BitVec.ofInt 64 x) ||| (BitVec.ofInt 64 y)).toNat : Int)

theorem wrapBV (v : BitVec 64) : IntKind.u64.wrap (v.toNat : Int) = v.toNat := u64_in (by have := v.isLt; omega)
theorem bv_back (v : BitVec 64) : BitVec.ofInt 64 (v.toNat : Int) = v := by
  rw [BitVec.ofInt_natCast, BitVec.ofNat_toNat]; simp
theorem orI_bv (x y : Int) : BitVec.ofInt 64 (orI x y) = BitVec.ofInt 64 x ||| BitVec.ofInt 64 y := by
  unfold orI; rw [wrapBV, bv_back]
theorem orI_u64 (x y : Int) : U64 (orI x y) := by
  unfold orI; rw [wrapBV]; have := (BitVec.ofInt 64 x ||| BitVec.ofInt 64 y).isLt; constructor <;> omega
theorem sub_bv {t x : Int} : sub t x = true ↔ BitVec.ofInt 64 t &&& ~~~ BitVec.ofInt 64 x = 0#64 := by
  unfold sub
  rw [wrapBV, beq_iff_eq]
  constructor
  · intro h
    exact BitVec.eq_of_toNat_eq (by simpa using h)
  · intro h
    rw [h]; rfl
theorem and_zero {a b : BitVec 64} : a &&& ~~~b = 0#64 ↔ ∀ i, i < 64 → a.getLsbD i = true → b.getLsbD i = true := by
  constructor
  · intro h i hi ha
    have := congrArg (fun v => BitVec.getLsbD v i) h
    simp [hi, ha] at this
    exact this
  · intro h
    refine BitVec.eq_of_getLsbD_eq fun i hi => ?_
    have := h i hi
    rw [BitVec.getLsbD_and, BitVec.getLsbD_not]
    cases e : a.getLsbD i with
    | false => simp
    | true => rw [this e]; simp
theorem sub_or {x y z : Int} : sub (orI x y) z = (sub x z && sub y z) := by
  rw [Bool.eq_iff_iff, Bool.and_eq_true, sub_bv, sub_bv, sub_bv, orI_bv, and_zero, and_zero, and_zero]
  constructor
  · intro h
    exact ⟨fun i hi e => h i hi (by simp [e]), fun i hi e => h i hi (by simp [e])⟩
  · rintro ⟨h1, h2⟩ i hi e
    rw [BitVec.getLsbD_or, Bool.or_eq_true] at e
    rcases e with e | e
    · exact h1 i hi e
    · exact h2 i hi e
theorem lsb_of {t : Int} (h : U64 t) {i : Nat} (hi : i < 64) : (BitVec.ofInt 64 t).getLsbD i = t.toNat.testBit i := by
  obtain ⟨n, rfl⟩ : ∃ n : Nat, t = n := ⟨t.toNat, by omega⟩
  rw [BitVec.ofInt_natCast, BitVec.getLsbD_ofNat]
  simp [hi]
theorem sub_iff {t x : Int} (ht : U64 t) (hx : U64 x) : sub t x = true ↔ ∀ i, i < 64 → t.toNat.testBit i = true → x.toNat.testBit i = true := by
  rw [sub_bv, and_zero]
  constructor
  · intro h i hi e
    have := h i hi (by rw [lsb_of ht hi]; exact e)
    rwa [lsb_of hx hi] at this
  · intro h i hi e
    rw [lsb_of hx hi]
    rw [lsb_of ht hi] at e
    exact h i hi e

theorem bit_eq (N : Nat) {t : Int} (ht : 0 ≤ t) {v : Nat} (hv : v < 64) : bautaref34_bit N t v = some (t.toNat.testBit v) := by
  obtain ⟨n, rfl⟩ : ∃ n : Nat, t = n := ⟨t.toNat, by omega⟩
  have e1 : IntKind.u64.wrap ((v : Nat) : Int) = v := u64_in (by omega)
  have e2 : ltI (v : Int) 0 = false := by rw [ltI_eq, decide_eq_false_iff_not]; omega
  have e3 : min v 64 = v := by omega
  have e4 : ((n : Int).fdiv (2 ^ v)) = ((n / 2 ^ v : Nat) : Int) := by
    rw [Int.fdiv_eq_ediv_of_nonneg _ (Int.le_of_lt (Int.pow_pos (by decide)))]
    rw [Int.natCast_ediv]; simp
  rw [Nat.testBit_eq_decide_div_mod_eq, Int.toNat_natCast]
  generalize n / 2 ^ v = q at e4
  have e5 : ((q : Int)).tmod 2 = ((q % 2 : Nat) : Int) := by rw [Int.tmod_eq_emod_of_nonneg (by omega)]; omega
  simp only [bautaref34_bit, bautaref34_bit_T, run_br, run_ret, e1, e2, toNat_nat, e3, e4, e5, Bool.not_false, if_true]
  congr 1
  rw [Bool.eq_iff_iff]
  simp only [beq_iff_eq, decide_eq_true_eq]
  omega

/-! ### Values -/
def ev (p : List Int) (x : Int) : Bool := decide (p.countP (fun t => sub t x) % 2 = 1)
theorem ev_snoc (p : List Int) (t x : Int) : ev (p ++ [t]) x = !(ev p x == sub t x) := by
  unfold ev
  rw [List.countP_append]
  cases h : sub t x
  · simp [h]
  · simp [h]; by_cases c : p.countP (fun t => sub t x) % 2 = 1 <;> simp [c] <;> omega
theorem ev_append (p q : List Int) (x : Int) : ev (p ++ q) x = !(ev p x == ev q x) := by
  unfold ev
  rw [List.countP_append]
  by_cases c : p.countP (fun t => sub t x) % 2 = 1 <;> by_cases d : q.countP (fun t => sub t x) % 2 = 1 <;> simp [c, d] <;> omega
theorem tog_countP (P : Int → Bool) (t : Int) : ∀ l : List Int, (tog t l).countP P % 2 = (l.countP P + if P t then 1 else 0) % 2
  | [] => by simp [tog, List.countP_cons]
  | x :: l => by
    unfold tog
    split
    · rw [List.countP_cons, List.countP_cons]
      have := tog_countP P t l
      omega
    · split
      · rename_i h1 h2
        subst h2
        rw [List.countP_cons]
        omega
      · rw [List.countP_cons (l := x :: l)]
theorem Mk_countP (P : Int → Bool) (l : List Int) : (Mk l).countP P % 2 = l.countP P % 2 := by
  have gen : ∀ (l acc : List Int), (l.foldl (fun acc t => tog t acc) acc).countP P % 2 = (acc.countP P + l.countP P) % 2 := by
    intro l
    induction l with
    | nil => intro acc; simp
    | cons t l ih =>
      intro acc
      rw [List.foldl_cons, ih, List.countP_cons]
      have := tog_countP P t acc
      omega
  have := gen l []
  simpa [Mk] using this
theorem ev_Mk (l : List Int) (x : Int) : ev (Mk l) x = ev l x := by
  unfold ev
  rw [Mk_countP]

def prods (a b : List Int) : List Int := a.flatMap fun x => b.map (orI x)
theorem prods_len (a b : List Int) : (prods a b).length = a.length * b.length := by
  unfold prods
  induction a with
  | nil => simp
  | cons x a ih => rw [List.flatMap_cons, List.length_append, ih]; simp [Nat.succ_mul]; omega
theorem prods_countP (a b : List Int) (z : Int) : (prods a b).countP (fun t => sub t z) = a.countP (fun t => sub t z) * b.countP (fun t => sub t z) := by
  unfold prods
  induction a with
  | nil => simp
  | cons x a ih =>
    rw [List.flatMap_cons, List.countP_append, ih, List.countP_cons, List.countP_map]
    have : ((fun t => sub t z) ∘ orI x) = fun y => sub x z && sub y z := by
      funext y; exact sub_or
    rw [this]
    cases h : sub x z
    · simp
    · simp [Nat.add_mul, Nat.add_comm]
theorem ev_prods (a b : List Int) (z : Int) : ev (prods a b) z = (ev a z && ev b z) := by
  unfold ev
  rw [prods_countP]
  have := Nat.mul_mod (a.countP fun t => sub t z) (b.countP fun t => sub t z) 2
  rcases Nat.mod_two_eq_zero_or_one (a.countP fun t => sub t z) with h1 | h1 <;> rcases Nat.mod_two_eq_zero_or_one (b.countP fun t => sub t z) with h2 | h2 <;> rw [h1, h2] at this <;> simp [this, h1, h2]

section
variable (N : Nat) {n : Nat} (hn : (n : Int) < 4398046511104) (hN : n + 100 < N)
include hn hN

theorem eval_eq {l : List Int} (hl : l.length ≤ n) (x : Int) : anf_Eval N l x = some (ev l x) := by
  have key : TS (anf_Eval_T N l x) (fun y => y = ev l x) := by
    unfold anf_Eval_T
    have hloop : OS (anf_Eval_l3 N x l l.length (false, 0)) (fun y => y = ev l x) := by
      refine loop_os (fun v : Bool × Int => ∃ i : Nat, v.2 = i ∧ i ≤ l.length ∧ v.1 = ev (l.take i) x) (fun v => l.length - v.2.toNat) _ ⟨0, rfl, Nat.zero_le _, by simp [ev]⟩ (by (try dsimp only); omega) ?_
      rintro ⟨b, i'⟩ ⟨i, h1, h2, h3⟩
      dsimp only at h1 h2 h3 ⊢
      subst h1
      subst h3
      unfold anf_Eval_l3_T
      have e : IntKind.i64.wrap ((i : Int) + 1) = ((i + 1 : Nat) : Int) := i64_succ (by omega)
      refine TS.br (fun hc => ?_) (fun hc => ?_)
      · rw [ltI_iff] at hc
        refine TS.brT (by rw [inRange_iff]; omega) ?_
        dsimp only
        rw [e]
        refine TS.ret ⟨⟨i + 1, rfl, by omega, ?_⟩, by (try dsimp only); omega⟩
        rw [take_snoc _ (by omega), ev_snoc, toNat_nat, getD_nat l i 0 (by omega)]
        rfl
      · have hc' : ¬ (i : Int) < l.length := by rw [← ltI_iff, hc]; simp
        refine TS.ret ?_
        show _ = _
        rw [List.take_of_length_le (by omega)]
    exact TS.call hloop (fun y hy => TS.ret hy)
  obtain ⟨y, h, rfl⟩ := key
  exact h

theorem refEval_eq {l : List Int} (hl : l.length ≤ n) (hw : ∀ t ∈ l, U64 t) {x : Int} (hx : U64 x) : bautaref34_Eval N l x = some (ev l x) := by
  have inner : ∀ i : Nat, i < l.length → OS (bautaref34_Eval_l7 N l x i (true, 0)) (fun y => y = sub (l.getD i 0) x) := by
    intro i hi
    have ht : U64 (l.getD i 0) := by rw [getD_nat l i 0 hi]; exact hw _ (List.getElem_mem hi)
    refine loop_os (fun v : Bool × Int => ∃ k : Nat, v.2 = k ∧ k ≤ 64 ∧ (v.1 = true ↔ ∀ j, j < k → (l.getD i 0).toNat.testBit j = true → x.toNat.testBit j = true)) (fun v => 64 - v.2.toNat) _ ⟨0, rfl, by omega, by simp⟩ (by (try dsimp only); omega) ?_
    rintro ⟨b, k'⟩ ⟨k, h1, h2, h3⟩
    dsimp only at h1 h2 h3 ⊢
    subst h1
    unfold bautaref34_Eval_l7_T
    have e : IntKind.i64.wrap ((k : Int) + 1) = ((k + 1 : Nat) : Int) := i64_succ (by omega)
    have split : ∀ {P : Nat → Prop}, (∀ j, j < k + 1 → P j) ↔ (∀ j, j < k → P j) ∧ P k := fun {P} => by
      constructor
      · intro h; exact ⟨fun j hj => h j (by omega), h k (by omega)⟩
      · rintro ⟨h1, h2⟩ j hj
        by_cases e : j = k
        · subst e; exact h2
        · exact h1 j (by omega)
    refine TS.br (fun hc => ?_) (fun hc => ?_)
    · rw [ltI_iff] at hc
      refine TS.brT (by rw [inRange_iff]; omega) ?_
      rw [toNat_nat]
      dsimp only
      rw [bit_eq N ht.1 (by omega), e]
      refine TS.call (P := fun y => y = (l.getD i 0).toNat.testBit k) ⟨_, rfl, rfl⟩ (fun y hy => ?_)
      subst hy
      refine TS.br (fun hb => ?_) (fun hb => ?_)
      · rw [bit_eq N hx.1 (by omega)]
        refine TS.call (P := fun y => y = x.toNat.testBit k) ⟨_, rfl, rfl⟩ (fun y hy => ?_)
        subst hy
        refine TS.br (fun hb2 => ?_) (fun hb2 => ?_)
        · refine TS.ret ⟨⟨k + 1, rfl, by omega, ?_⟩, by (try dsimp only); omega⟩
          rw [split, hb]
          simp at hb2
          simp [hb2]
        · refine TS.ret ⟨⟨k + 1, rfl, by omega, ?_⟩, by (try dsimp only); omega⟩
          rw [split, ← h3]
          simp at hb2
          simp [hb2]
      · refine TS.ret ⟨⟨k + 1, rfl, by omega, ?_⟩, by (try dsimp only); omega⟩
        rw [split, ← h3, hb]
        simp
    · have hc' : ¬ (k : Int) < 64 := by rw [← ltI_iff, hc]; simp
      obtain rfl : k = 64 := by omega
      refine TS.ret ?_
      show b = _
      rw [Bool.eq_iff_iff, h3, sub_iff ht hx]
  have key : TS (bautaref34_Eval_T N l x) (fun y => y = ev l x) := by
    unfold bautaref34_Eval_T
    have hloop : OS (bautaref34_Eval_l3 N l x (false, 0)) (fun y => y = ev l x) := by
      refine loop_os (fun v : Bool × Int => ∃ i : Nat, v.2 = i ∧ i ≤ l.length ∧ v.1 = ev (l.take i) x) (fun v => l.length - v.2.toNat) _ ⟨0, rfl, Nat.zero_le _, by simp [ev]⟩ (by (try dsimp only); omega) ?_
      rintro ⟨b, i'⟩ ⟨i, h1, h2, h3⟩
      dsimp only at h1 h2 h3 ⊢
      subst h1
      subst h3
      unfold bautaref34_Eval_l3_T
      have e : IntKind.i64.wrap ((i : Int) + 1) = ((i + 1 : Nat) : Int) := i64_succ (by omega)
      refine TS.br (fun hc => ?_) (fun hc => ?_)
      · rw [ltI_iff] at hc
        have hi : i < l.length := by omega
        rw [e]
        have step : ev (l.take (i + 1)) x = !(ev (l.take i) x == sub (l.getD i 0) x) := by
          rw [take_snoc _ hi, ev_snoc, getD_nat l i 0 hi]
        refine TS.call (inner i hi) (fun y hy => TS.br (fun hb => ?_) (fun hb => ?_))
        · refine TS.ret ⟨⟨i + 1, rfl, by omega, ?_⟩, by (try dsimp only); omega⟩
          rw [step, ← hy, hb]; simp
        · refine TS.ret ⟨⟨i + 1, rfl, by omega, ?_⟩, by (try dsimp only); omega⟩
          rw [step, ← hy, hb]; simp
      · have hc' : ¬ (i : Int) < l.length := by rw [← ltI_iff, hc]; simp
        refine TS.ret ?_
        show _ = _
        rw [List.take_of_length_le (by omega)]
    exact TS.call hloop (fun y hy => TS.ret hy)
  obtain ⟨y, h, rfl⟩ := key
  exact h

/-! ### Products -/
theorem mul_ok {p q : List Int} (hp : p.length ≤ 120) (hq : q.length ≤ 120) (hn2 : 14400 ≤ n) : OS2 (anf_mul N p q) (fun _ => 4096 < (Mk (prods p q)).length) (fun y => (Mk (prods p q)).length ≤ 4096 ∧ (y.2.drop 0).take y.1 = Mk (prods p q)) := by
  unfold anf_mul
  refine OS.ep (OS.of ?_)
  unfold anf_mul_T
  have hle : p.length * q.length ≤ 120 * 120 := Nat.mul_le_mul hp hq
  have e0 : IntKind.i64.wrap ((p.length : Int) * q.length) = ((p.length * q.length : Nat) : Int) := by rw [← Int.natCast_mul, i64_in (by omega)]
  dsimp only
  rw [e0]
  have inner : ∀ (x : Int) (r : List Int), r.length ≤ 14400 → OS (anf_mul_l8 N x q q.length (0, r)) (fun y => y = r ++ q.map (orI x)) := by
    intro x r hr
    refine loop_os (fun v : Int × List Int => ∃ i : Nat, v.1 = i ∧ i ≤ q.length ∧ v.2 = r ++ (q.take i).map (orI x)) (fun v => q.length - v.1.toNat) _ ⟨0, rfl, Nat.zero_le _, by simp⟩ (by (try dsimp only); omega) ?_
    rintro ⟨i', s⟩ ⟨i, h1, h2, h3⟩
    dsimp only at h1 h2 h3 ⊢
    subst h1
    subst h3
    unfold anf_mul_l8_T
    have e : IntKind.i64.wrap ((i : Int) + 1) = ((i + 1 : Nat) : Int) := i64_succ (by omega)
    refine TS.br (fun hc => ?_) (fun hc => ?_)
    · rw [ltI_iff] at hc
      refine TS.brT (by rw [inRange_iff]; omega) (TS.brT (by rw [ltI_iff]; simp; omega) ?_)
      rw [e, toNat_nat]
      refine TS.ret ⟨⟨i + 1, rfl, by omega, ?_⟩, by (try dsimp only); omega⟩
      rw [take_snoc _ (by omega), getD_nat q i 0 (by omega), List.map_append, List.append_assoc]
      rfl
    · have hc' : ¬ (i : Int) < q.length := by rw [← ltI_iff, hc]; simp
      refine TS.ret ?_
      show _ = _
      rw [List.take_of_length_le (by omega)]
  have hloop : OS (anf_mul_l5 N q p p.length (0, [])) (fun y => y = prods p q) := by
    refine loop_os (fun v : Int × List Int => ∃ i : Nat, v.1 = i ∧ i ≤ p.length ∧ v.2 = prods (p.take i) q) (fun v => p.length - v.1.toNat) _ ⟨0, rfl, Nat.zero_le _, by simp [prods]⟩ (by (try dsimp only); omega) ?_
    rintro ⟨i', s⟩ ⟨i, h1, h2, h3⟩
    dsimp only at h1 h2 h3 ⊢
    subst h1
    subst h3
    unfold anf_mul_l5_T
    have e : IntKind.i64.wrap ((i : Int) + 1) = ((i + 1 : Nat) : Int) := i64_succ (by omega)
    refine TS.br (fun hc => ?_) (fun hc => ?_)
    · rw [ltI_iff] at hc
      have hlen : (prods (p.take i) q).length ≤ 14400 := by
        rw [prods_len, List.length_take]
        exact Nat.le_trans (Nat.mul_le_mul (by omega : min i p.length ≤ 120) hq) (by omega)
      refine TS.brT (by rw [inRange_iff]; omega) (TS.call (inner _ _ hlen) (fun y hy => ?_))
      rw [e]
      subst hy
      refine TS.ret ⟨⟨i + 1, rfl, by omega, ?_⟩, by (try dsimp only); omega⟩
      rw [take_snoc _ (by omega), toNat_nat, getD_nat p i 0 (by omega)]
      simp only [prods, List.flatMap_append, List.flatMap_cons, List.flatMap_nil, List.append_nil]
    · have hc' : ¬ (i : Int) < p.length := by rw [← ltI_iff, hc]; simp
      refine TS.ret ?_
      show _ = _
      rw [List.take_of_length_le (by omega)]
  refine TS.brF (by rw [ltI_eq, decide_eq_false_iff_not]; omega) (TS.call hloop (fun y hy => ?_))
  subst hy
  have hl := prods_len p q
  refine TS.call (made_ok N (n := (prods p q).length) (by omega) (by omega) rfl) (fun y hy => ?_)
  have hy1 : y.1 = (Mk (prods p q)).length := by
    rw [← hy.2]; simp; omega
  refine TS.br (fun hc => ?_) (fun hc => ?_)
  · rw [ltI_iff] at hc
    exact TS.ret (by omega)
  · have hc' : ¬ (4096 : Int) < y.1 := by rw [← ltI_iff, hc]; simp
    exact TS.ret ⟨by omega, hy.2⟩

theorem Mul_ok {a b : List Int} (ha : a.length ≤ 120) (hb : b.length ≤ 120) (hn2 : 14400 ≤ n) : OS2 (anf_Mul N a b) (fun _ => 4096 < (Mk (prods (Mk a) (Mk b))).length) (fun y => (Mk (prods (Mk a) (Mk b))).length ≤ 4096 ∧ (y.2.drop 0).take y.1 = Mk (prods (Mk a) (Mk b))) := by
  unfold anf_Mul
  refine OS.ep (OS.of ?_)
  unfold anf_Mul_T
  have h1 := Mk_len a
  have h2 := Mk_len b
  have m := mul_ok N hn hN (p := Mk a) (q := Mk b) (by omega) (by omega) hn2
  refine TS.callS (poly_ok N (n := a.length) (by omega) (by omega) rfl) (fun _ ea => ?_) (fun y hy => ?_)
  · refine TS.callS (poly_ok N (n := b.length) (by omega) (by omega) rfl) (fun _ eb => ?_) (fun z hz => ?_)
    · rw [ea, eb] at m ⊢
      exact TS.callS m (fun _ h => TS.ret h) (fun y h => TS.ret h)
    · rw [ea] at m ⊢
      rw [hz.2]
      exact TS.callS m (fun _ h => TS.ret h) (fun y h => TS.ret h)
  · rw [hy.2]
    refine TS.callS (poly_ok N (n := b.length) (by omega) (by omega) rfl) (fun _ eb => ?_) (fun z hz => ?_)
    · rw [eb] at m ⊢
      exact TS.callS m (fun _ h => TS.ret h) (fun y h => TS.ret h)
    · rw [hz.2]
      exact TS.callS m (fun _ h => TS.ret h) (fun y h => TS.ret h)

/-! ### Sums -/
theorem add_ok {p q : List Int} (hp : SS p) (hq : SS q) (hlen : p.length + q.length ≤ n) : OS (anf_add N p q) (fun r => r = Mk (p ++ q)) := by
  unfold anf_add
  refine OS.of ?_
  unfold anf_add_T
  -- what is out, and what is left
  let I : List Int × List Int × List Int → Prop := fun v => SS (v.2.2 ++ v.1) ∧ SS (v.2.2 ++ v.2.1) ∧ v.2.2.length + v.1.length + v.2.1.length ≤ n ∧ ∀ y, (v.2.2 ++ v.1 ++ v.2.1).count y % 2 = (p ++ q).count y % 2
  have hloop : OS (anf_add_l2 N (p, q, [])) (fun v => I v ∧ (v.1 = [] ∨ v.2.1 = [])) := by
    refine loop_os I (fun v => v.1.length + v.2.1.length) _ ⟨hp, hq, by simp; omega, fun y => by simp⟩ (by (try dsimp only); omega) ?_
    rintro ⟨a, b, r⟩ hI
    have hI0 := hI
    obtain ⟨h1, h2, h3, h4⟩ := hI
    dsimp only at h1 h2 h3 h4 ⊢
    unfold anf_add_l2_T
    refine TS.br (fun hc => ?_) (fun hc => ?_)
    · rw [ltI_iff] at hc
      refine TS.br (fun hc2 => ?_) (fun hc2 => ?_)
      · rw [ltI_iff] at hc2
        cases a with
        | nil => simp at hc
        | cons x a =>
          cases b with
          | nil => simp at hc2
          | cons y b =>
            simp only [List.length_cons] at h3
            have hj : OS (anf_add_j4 N (x :: a) (y :: b) r) (fun v => I v ∧ v.1.length + v.2.1.length < (x :: a).length + (y :: b).length) := by
              unfold anf_add_j4
              refine OS.of ?_
              unfold anf_add_j4_T
              have c1 : inRange 0 (x :: a).length = true := by rw [inRange_iff, List.length_cons]; omega
              have c2 : inRange 0 (y :: b).length = true := by rw [inRange_iff, List.length_cons]; omega
              have c3 : ltI (((r.length : Int) + 1) * 8) 140737488355328 = true := by rw [ltI_iff]; omega
              have c4 : (leI 0 1 && leI 1 ((x :: a).length : Int)) = true := by rw [Bool.and_eq_true, leI_iff, leI_iff]; simp; omega
              have c5 : (leI 0 1 && leI 1 ((y :: b).length : Int)) = true := by rw [Bool.and_eq_true, leI_iff, leI_iff]; simp; omega
              have e1 : r ++ x :: a = (r ++ [x]) ++ a := by simp
              have e2 : r ++ y :: b = (r ++ [y]) ++ b := by simp
              obtain ⟨s1, s2, s3⟩ := List.pairwise_append.1 h1
              obtain ⟨t1, t2, t3⟩ := List.pairwise_append.1 h2
              refine TS.brT c1 (TS.brT c2 (TS.br (fun hl => ?_) (fun hl => ?_)))
              · rw [ltI_iff] at hl
                have hl : x < y := hl
                refine TS.brT c1 (TS.brT c3 (TS.brT c4 (TS.ret ⟨⟨?_, ?_, ?_, fun z => ?_⟩, by simp⟩)))
                · show SS ((r ++ [x]) ++ a); rw [← e1]; exact h1
                · show SS ((r ++ [x]) ++ y :: b)
                  rw [List.append_assoc]
                  refine List.pairwise_append.2 ⟨s1, List.pairwise_cons.2 ⟨fun z hz => ?_, t2⟩, fun u hu z hz => ?_⟩
                  · rcases List.mem_cons.1 hz with rfl | hz
                    · exact hl
                    · have := (List.pairwise_cons.1 t2).1 z hz; omega
                  · rcases List.mem_cons.1 hz with rfl | hz
                    · exact s3 u hu z (by simp)
                    · exact t3 u hu z hz
                · simp; omega
                · show ((r ++ [x]) ++ a ++ y :: b).count z % 2 = _
                  rw [← e1]; exact h4 z
              · have hl' : ¬ x < y := by
                  intro h
                  have : ltI ((x :: a).getD 0 0) ((y :: b).getD 0 0) = true := by rw [ltI_iff]; exact h
                  rw [this] at hl; cases hl
                refine TS.brT c1 (TS.brT c2 (TS.br (fun hg => ?_) (fun hg => ?_)))
                · rw [ltI_iff] at hg
                  have hg : y < x := hg
                  refine TS.brT c2 (TS.brT c3 (TS.brT c5 (TS.ret ⟨⟨?_, ?_, ?_, fun z => ?_⟩, by simp⟩)))
                  · show SS ((r ++ [y]) ++ x :: a)
                    rw [List.append_assoc]
                    refine List.pairwise_append.2 ⟨s1, List.pairwise_cons.2 ⟨fun z hz => ?_, s2⟩, fun u hu z hz => ?_⟩
                    · rcases List.mem_cons.1 hz with rfl | hz
                      · exact hg
                      · have := (List.pairwise_cons.1 s2).1 z hz; omega
                    · rcases List.mem_cons.1 hz with rfl | hz
                      · exact t3 u hu z (by simp)
                      · exact s3 u hu z hz
                  · show SS ((r ++ [y]) ++ b); rw [← e2]; exact h2
                  · simp; omega
                  · show ((r ++ [y]) ++ x :: a ++ b).count z % 2 = _
                    rw [← h4 z]
                    simp only [List.count_append, List.count_cons, List.count_nil]
                    omega
                · have hg' : ¬ y < x := by
                    intro h
                    have : ltI ((y :: b).getD 0 0) ((x :: a).getD 0 0) = true := by rw [ltI_iff]; exact h
                    rw [this] at hg; cases hg
                  obtain rfl : x = y := by omega
                  refine TS.brT c4 (TS.brT c5 (TS.ret ⟨⟨?_, ?_, ?_, fun z => ?_⟩, by simp; omega⟩))
                  · exact List.pairwise_append.2 ⟨s1, (List.pairwise_cons.1 s2).2, fun u hu z hz => s3 u hu z (List.mem_cons_of_mem _ hz)⟩
                  · exact List.pairwise_append.2 ⟨s1, (List.pairwise_cons.1 t2).2, fun u hu z hz => t3 u hu z (List.mem_cons_of_mem _ hz)⟩
                  · simp; omega
                  · show (r ++ a ++ b).count z % 2 = _
                    rw [← h4 z]
                    simp only [List.count_append, List.count_cons]
                    omega
            exact TS.call hj (fun v hv => TS.ret hv)
      · have : ¬ (0 : Int) < b.length := by rw [← ltI_iff, hc2]; simp
        exact TS.ret ⟨hI0, .inr (List.eq_nil_of_length_eq_zero (by (try dsimp only); omega))⟩
    · have : ¬ (0 : Int) < a.length := by rw [← ltI_iff, hc]; simp
      exact TS.ret ⟨hI0, .inl (List.eq_nil_of_length_eq_zero (by (try dsimp only); omega))⟩
  refine TS.call hloop (fun v hv => ?_)
  obtain ⟨⟨h1, h2, h3, h4⟩, h5⟩ := hv
  refine TS.brT (by rw [ltI_iff]; omega) (TS.brT (by rw [ltI_iff, List.length_append]; omega) (TS.ret ?_))
  have hss : SS (v.2.2 ++ v.1 ++ v.2.1) := by
    rcases h5 with h5 | h5
    · rw [h5, List.append_nil]; exact h2
    · rw [h5, List.append_nil]; exact h1
  exact Mk_of hss fun y => by
    rw [← h4 y, hss.count]; split <;> simp_all

omit hn hN in
theorem Mk_append (a b : List Int) : Mk (Mk a ++ Mk b) = Mk (a ++ b) := SS.ext (Mk_ss _) (Mk_ss _) fun y => by
  rw [Mk_mem, Mk_mem, List.count_append, List.count_append, (Mk_ss a).count, (Mk_ss b).count]
  have h1 := @Mk_mem a y
  have h2 := @Mk_mem b y
  by_cases c : y ∈ Mk a <;> by_cases d : y ∈ Mk b <;> simp only [c, d, if_true, if_false, true_iff, false_iff] at h1 h2 ⊢ <;> omega

theorem Add_ok {a b : List Int} (ha : a.length ≤ 120) (hb : b.length ≤ 120) (hn2 : 14400 ≤ n) : OS (anf_Add N a b) (fun r => r = Mk (a ++ b)) := by
  unfold anf_Add
  refine OS.of ?_
  unfold anf_Add_T
  have h1 := Mk_len a
  have h2 := Mk_len b
  have m := add_ok N hn hN (Mk_ss a) (Mk_ss b) (by omega)
  rw [Mk_append] at m
  refine TS.callS (poly_ok N (n := a.length) (by omega) (by omega) rfl) (fun _ ea => ?_) (fun y hy => ?_)
  · refine TS.callS (poly_ok N (n := b.length) (by omega) (by omega) rfl) (fun _ eb => ?_) (fun z hz => ?_)
    · rw [ea, eb] at m
      exact TS.call m (fun _ h => TS.ret h)
    · rw [ea] at m
      rw [hz.2]
      exact TS.call m (fun _ h => TS.ret h)
  · rw [hy.2]
    refine TS.callS (poly_ok N (n := b.length) (by omega) (by omega) rfl) (fun _ eb => ?_) (fun z hz => ?_)
    · rw [eb] at m
      exact TS.call m (fun _ h => TS.ret h)
    · rw [hz.2]
      exact TS.call m (fun _ h => TS.ret h)
end

theorem TS.eqv {α Y : Type} {o : Option Y} {v : Y} {f : Y → Tree α} {Q : α → Prop} (h : o = some v) (hf : TS (f v) Q) : TS (.call o f) Q := by
  rw [h]; exact hf

/-- The law: a polynomial's values, and that sums and products are so at each place. -/
theorem anfValues_law' {N : Nat} (hN : 20000 < N) (a b : List Int) (x : Int) (ha : ∀ t ∈ a, U64 t) (hb : ∀ t ∈ b, U64 t) (hx : U64 x) : bautalaw34_AnfValues N a b x = some true := by
  obtain ⟨m, rfl⟩ : ∃ m, N = m + 200 := ⟨N - 200, by omega⟩
  have key : TS (bautalaw34_AnfValues_T (m + 200) a b x) (fun y => y = true) := by
    unfold bautalaw34_AnfValues_T
    refine TS.short (TS.short (TS.short ?_))
    have e : ∀ l : List Int, (l.take 120).take 120 = l.take 120 := fun l => by rw [List.take_take]; simp
    rw [e]
    have ha' : ∀ t ∈ a.take 120, U64 t := fun t ht => ha t (List.mem_of_mem_take ht)
    have hb' : ∀ t ∈ b.take 120, U64 t := fun t ht => hb t (List.mem_of_mem_take ht)
    have hla : (a.take 120).length ≤ 120 := by simp; omega
    have hlb : (b.take 120).length ≤ 120 := by simp; omega
    have ea := e a
    have eb := e b
    generalize a.take 120 = p at ha' hla ea
    generalize b.take 120 = q at hb' hlb eb
    have h14 : ((14400 : Nat) : Int) < 4398046511104 := by decide
    have hNN : 14400 + 100 < m + 200 := by omega
    have hev : ∀ l : List Int, l.length ≤ 14400 → anf_Eval (m + 200) l x = some (ev l x) := fun l hl => eval_eq (m + 200) h14 hNN hl x
    refine TS.eqv (hev p (by omega)) (TS.eqv (refEval_eq (m + 200) h14 hNN (l := p) (by omega) ha' hx) (TS.brF (by simp) ?_))
    refine TS.short (TS.short ?_)
    rw [ea, eb]
    have lives := anf_lives m
    have hsum : ∀ r : List Int, r = Mk (p ++ q) → ev r x = !(ev p x == ev q x) := fun r hr => by rw [hr, ev_Mk, ev_append]
    have hsl : ∀ r : List Int, r = Mk (p ++ q) → r.length ≤ 14400 := fun r hr => by
      have := Mk_len (p ++ q)
      rw [hr]; rw [List.length_append] at this; omega
    refine TS.callS (Mul_ok (m + 200) h14 hNN hla hlb (Nat.le_refl _)) (fun _ hbig => ?_) (fun y hy => ?_)
    · refine TS.eqv (refEval_eq (m + 200) h14 hNN (l := p) (by omega) ha' hx) (TS.eqv (refEval_eq (m + 200) h14 hNN (l := q) (by omega) hb' hx) (TS.short (TS.short ?_)))
      rw [ea, eb]
      refine TS.call (Add_ok (m + 200) h14 hNN hla hlb (Nat.le_refl _)) (fun r hr => TS.eqv (hev r (hsl r hr)) ?_)
      rw [hsum r hr]
      exact TS.brT (by simp) (TS.eqv lives (TS.ret rfl))
    · refine TS.eqv (refEval_eq (m + 200) h14 hNN (l := p) (by omega) ha' hx) (TS.eqv (refEval_eq (m + 200) h14 hNN (l := q) (by omega) hb' hx) (TS.short (TS.short ?_)))
      rw [ea, eb]
      refine TS.call (Add_ok (m + 200) h14 hNN hla hlb (Nat.le_refl _)) (fun r hr => TS.eqv (hev r (hsl r hr)) ?_)
      rw [hsum r hr]
      refine TS.brT (by simp) ?_
      have hp2 : ev ((y.2.drop 0).take y.1) x = (ev p x && ev q x) := by rw [hy.2, ev_Mk, ev_prods, ev_Mk, ev_Mk]
      refine TS.eqv (hev _ (by rw [hy.2]; omega)) ?_
      rw [hp2]
      refine TS.br (fun h => ?_) (fun h => ?_)
      · rw [h]; exact TS.brT (by simp) (TS.eqv lives (TS.ret rfl))
      · rw [h]; exact TS.brT (by simp) (TS.eqv lives (TS.ret rfl))
  obtain ⟨y, h, rfl⟩ := key
  exact h
theorem wf_u64 {t : Int} (h : (Lit.int .u64 t).wf = true) : U64 t := by
  simp [Lit.wf, IntKind.min, IntKind.max, IntKind.signed, IntKind.bits] at h
  constructor <;> omega
theorem anfValues_law (a : List Int) (wa : WF (.list (.int .u64)) a) (b : List Int) (wb : WF (.list (.int .u64)) b) (x : Int) (wx : WF (.int .u64) x) : bautalaw34_AnfValues 100002 a b x = some true :=
  anfValues_law' (by omega) a b x (fun t ht => wf_u64 (wa.2 t ht)) (fun t ht => wf_u64 (wb.2 t ht)) (wf_u64 wx)
end Go.Proofs.YtkcimijkcmoonaaDoorV
