/- The plain law of chapter 12: NamesLeft. -/
import Derived.Test.YtfogafinohfpfaaGreatDoorPNlC
namespace Go.Proofs.YtfogafinohfpfaaGreatDoorV
set_option linter.unusedVariables false
set_option linter.unusedSimpArgs false

/-- Statements, one behind the other. -/
def runS (f : Node → SFn) : List Node → SFn
  | [], so, fu, o, p, q => some (.inr (so, fu, q, p, o))
  | x :: l, so, fu, o, p, q => match f x so fu o p q with
    | none => none
    | some (.inl e) => some (.inl e)
    | some (.inr y) => runS f l y.1 y.2.1 y.2.2.2.2 y.2.2.2.1 y.2.2.1

def nextS (f : Node → SFn) (l : List Node) : SErr ⊕ SOut → Option (SErr ⊕ SOut)
  | .inl e => some (.inl e)
  | .inr y => runS f l y.1 y.2.1 y.2.2.2.2 y.2.2.2.1 y.2.2.1
theorem runS_cons {f : Node → SFn} {x : Node} {l : List Node} {so fu : SM} {o : List LBL} {p q : List ByteArray} {r : SErr ⊕ SOut} (h : f x so fu o p q = some r) :
    runS f (x :: l) so fu o p q = nextS f l r := by
  rw [runS, h]; cases r <;> rfl
theorem runS_append (f : Node → SFn) : ∀ (a b : List Node) (so fu : SM) (o : List LBL) (p q : List ByteArray), runS f (a ++ b) so fu o p q = match runS f a so fu o p q with
    | none => none
    | some (.inl e) => some (.inl e)
    | some (.inr y) => runS f b y.1 y.2.1 y.2.2.2.2 y.2.2.2.1 y.2.2.1
  | [], b, so, fu, o, p, q => rfl
  | x :: a, b, so, fu, o, p, q => by
    rw [List.cons_append, runS, runS]
    cases h : f x so fu o p q with
    | none => rfl
    | some r =>
      cases r with
      | inl e => rfl
      | inr y => exact runS_append f a b _ _ _ _ _

theorem runS_sim {f : Node → SFn} : ∀ (l : List Node), (∀ x ∈ l, ∀ so fu o p q c, SZ o p q (cntN x + c) → Sim (f x) so fu o p q c) → ∀ so fu o p q c, SZ o p q (cntL l + c) → Sim (runS f l) so fu o p q c
  | [], _, so, fu, o, p, q, c, hz => by
    refine ⟨_, rfl, fun y hy => ?_⟩
    cases hy
    simp only [cntL, Nat.zero_add] at hz
    exact ⟨hz, fun s hs => ⟨hs, rfl⟩⟩
  | x :: l, hf, so, fu, o, p, q, c, hz => by
    simp only [cntL] at hz
    obtain ⟨res, h1, h2⟩ := hf x (by simp) so fu o p q (cntL l + c) (by rw [← Nat.add_assoc]; exact hz)
    cases res with
    | inl e => exact ⟨.inl e, runS_cons h1, fun y hy => by cases hy⟩
    | inr y =>
      obtain ⟨g1, g2⟩ := h2 y rfl
      obtain ⟨res', k1, k2⟩ := runS_sim l (fun z hz' => hf z (by simp [hz'])) y.1 y.2.1 y.2.2.2.2 y.2.2.2.1 y.2.2.1 c g1
      refine ⟨res', (runS_cons h1).trans k1, fun w hw => ?_⟩
      obtain ⟨m1, m2⟩ := k2 w hw
      refine ⟨m1, fun s hs => ?_⟩
      obtain ⟨g3, g4⟩ := g2 s hs
      obtain ⟨m3, m4⟩ := m2 s g3
      exact ⟨m3, (runS_cons g4).trans m4⟩

noncomputable abbrev stF (N : Nat) (r : List Node → SFn) (x : Node) : SFn := fun so fu o p q => names_checker_stmt N r x.k x.s x.a x.l x.p so fu o p q

theorem stmts_T_is (N : Nat) (r : List Node → SFn) (l : List Node) (hl : l.length < N) (hl2 : l.length ≤ 4000) (so fu : SM) (o : List LBL) (p q : List ByteArray) : (names_checker_stmts_T N r l so fu o p q).run some = runS (stF N r) l so fu o p q := by
  have key : ∀ (m i : Nat), i ≤ l.length → l.length - i < m → ∀ so fu o p q, loopN (fun v : Int × SM × SM × List ByteArray × List ByteArray × List LBL => names_checker_stmts_l1_T N r l (l.length : Int) v.1 v.2.1 v.2.2.1 v.2.2.2.1 v.2.2.2.2.1 v.2.2.2.2.2) m ((i : Int), so, fu, q, p, o) = runS (stF N r) (l.drop i) so fu o p q := by
    intro m
    induction m with
    | zero => intro i _ h; omega
    | succ m ih =>
      intro i hi hm so fu o p q
      rw [loopN]
      rcases Nat.lt_or_ge i l.length with hlt | hge
      · have hd : l.drop i = l.getD i nd0 :: l.drop (i + 1) := by
          rw [List.drop_eq_getElem_cons hlt, getD_nat _ _ _ hlt]
        simp only [names_checker_stmts_l1_T, run_br, run_call, run_ret, ltI_iff, inRange_iff, toNat_nat]
        rw [if_pos (by omega), if_pos (by omega), hd, runS, i64_succ (by omega)]
        show (Option.bind (stF N r (l.getD i nd0) so fu o p q) _) = _
        cases h : stF N r (l.getD i nd0) so fu o p q with
        | none => rfl
        | some z =>
          cases z with
          | inl e => rfl
          | inr y => exact ih (i + 1) (by omega) (by omega) y.1 y.2.1 y.2.2.2.2 y.2.2.2.1 y.2.2.1
      · obtain rfl : i = l.length := by omega
        simp only [names_checker_stmts_l1_T, run_br, run_ret, ltI_iff]
        rw [if_neg (by omega), List.drop_length]
        rfl
  simp only [names_checker_stmts_T, run_call, run_ret, names_checker_stmts_l1]
  have := key N 0 (by omega) (by omega) so fu o p q
  rw [List.drop_zero] at this
  rw [show (0 : Int) = ((0 : Nat) : Int) from rfl, this]
  cases runS (stF N r) l so fu o p q with
  | none => rfl
  | some z => cases z <;> rfl

section
variable (N : Nat) (hN : 4000000000 < N)
include hN
theorem stmts_sim : ∀ (k : Nat) (l : List Node) so fu o p q c, depL l ≤ k → depL l ≤ 300 → cntL l ≤ 3000 → (∀ x ∈ l, PB x) → SZ o p q (cntL l + c) → Sim (names_checker_stmts_R N (k + 1) l) so fu o p q c := by
  intro k
  induction k with
  | zero =>
    intro l so fu o p q c h1 h2 h3 h4 h5
    have hl := len_cntL l
    have hs := runS_sim (f := stF N (names_checker_stmts_R N 0)) l (fun x hx => by
      have := dep_mem hx
      rw [depN_eq] at this
      omega) so fu o p q c h5
    have e : names_checker_stmts_R N (0 + 1) l = runS (stF N (names_checker_stmts_R N 0)) l := by
      funext so fu o p q
      exact stmts_T_is N (names_checker_stmts_R N 0) l (by omega) (by omega) so fu o p q
    rw [e]; exact hs
  | succ k ih =>
    intro l so fu o p q c h1 h2 h3 h4 h5
    have hl := len_cntL l
    have hs := runS_sim (f := stF N (names_checker_stmts_R N (k + 1))) l (fun x hx so fu o p q c hz => by
      have g1 := dep_mem hx
      have g2 := cnt_mem hx
      exact stmt_sim N hN (r := names_checker_stmts_R N (k + 1)) (D := k) (fun l so fu o p q c a1 a2 a3 a4 a5 => ih l so fu o p q c a1 a2 a3 a4 a5) x (by omega) (by omega) (by omega) (h4 x hx) so fu o p q c hz) so fu o p q c h5
    have e : names_checker_stmts_R N (k + 1 + 1) l = runS (stF N (names_checker_stmts_R N (k + 1))) l := by
      funext so fu o p q
      exact stmts_T_is N (names_checker_stmts_R N (k + 1)) l (by omega) (by omega) so fu o p q
    rw [e]; exact hs

abbrev selM : SM := setE (eqE .str) (⟨#[115, 101, 108]⟩ : ByteArray) 3 []

/-- A program's names. -/
def chk (r : SErr ⊕ SOut) : Int × Int × List ByteArray × List ByteArray × List LBL := match r with
  | .inl e => (e.1, 120, [], [], [])
  | .inr y => (0, 0, y.2.2.1, y.2.2.2.1, y.2.2.2.2)
omit hN in
theorem check_is {l : List Node} {r : SErr ⊕ SOut} (h : names_checker_stmts N l [] selM [] [] [] = some r) : names_Check N l = some (chk r) := by
  simp only [names_Check, names_Check_T, names_check, names_check_T, run_call, run_ret, h, Option.bind_some]
  cases r <;> rfl

theorem lab_refl (l : List LBL) (hl : l.length < 100000) : bautaref12_Labels N l l = some true := by
  have key : bautaref12_Labels_l4 N l l ((0 : Nat) : Int) = some (.inr ()) := by
    unfold bautaref12_Labels_l4
    refine loop_up (fun i : Nat => (i : Int)) l.length _ (by omega) (by omega) (fun i _ hi => ?_) ?_
    · simp only [bautaref12_Labels_l4_T, run_br, run_call, run_ret, ltI_iff, inRange_iff, toNat_nat, beq_self_eq_true, Bool.and_self, Bool.not_true, Bool.false_eq_true, if_false]
      rw [if_pos (by omega), if_pos (by omega), if_pos (by omega), i64_succ (by omega)]
    · simp only [bautaref12_Labels_l4_T, run_br, run_ret, ltI_iff]
      rw [if_neg (by omega)]
  simp only [bautaref12_Labels, bautaref12_Labels_T, run_br, run_call, run_ret, bne_self_eq_false, Bool.false_eq_true, if_false]
  rw [show (0 : Int) = ((0 : Nat) : Int) from rfl, key]
  rfl
omit hN in
theorem nam_refl (l : List ByteArray) (hl : l.length < 4294304001) (hN2 : 4294304001 < N) : bautaref10_Names N l l = some true := by
  have key : bautaref10_Names_l4 N l l ((0 : Nat) : Int) = some (.inr ()) := by
    unfold bautaref10_Names_l4
    refine loop_up (fun i : Nat => (i : Int)) l.length _ (by omega) (by omega) (fun i _ hi => ?_) ?_
    · simp only [bautaref10_Names_l4_T, run_br, run_call, run_ret, ltI_iff, inRange_iff, toNat_nat, beq_self_eq_true, Bool.not_true, Bool.false_eq_true, if_false]
      rw [if_pos (by omega), if_pos (by omega), if_pos (by omega), i64_succ (by omega)]
    · simp only [bautaref10_Names_l4_T, run_br, run_ret, ltI_iff]
      rw [if_neg (by omega)]
  simp only [bautaref10_Names, bautaref10_Names_T, run_br, run_call, run_ret, bne_self_eq_false, Bool.false_eq_true, if_false]
  rw [show (0 : Int) = ((0 : Nat) : Int) from rfl, key]
  rfl

/-- What is wanted: the labels but for those of the name. -/
theorem want_is (j : Nat) (l : List Node) (hj : j < l.length) (o : List LBL) (ho : o.length ≤ 4000) : bautalaw12_NamesLeft_l11 N (j : Int) l o (0, []) = some (flt (l.getD j nd0).s o) := by
  have := loop_up (s := fun v : Int × List LBL => bautalaw12_NamesLeft_l11_T N (j : Int) l o v.1 v.2) (fun i : Nat => ((i : Int), flt (l.getD j nd0).s (o.take i))) o.length (flt (l.getD j nd0).s o) (k := 0) (m := N) (by omega) (by omega) (fun i _ hi => ?_) ?_
  · exact this
  · have hfl := flt_len (l.getD j nd0).s (o.take i)
    have htl : (o.take i).length ≤ o.length := by simp only [List.length_take]; omega
    have ht : flt (l.getD j nd0).s (o.take (i + 1)) = flt (l.getD j nd0).s (o.take i) ++ (if labB (l.getD j nd0).s (o.getD i (ByteArray.empty, (false, false))) = true then [] else [o.getD i (ByteArray.empty, (false, false))]) := by
      rw [takeS o (ByteArray.empty, (false, false)) hi, flt, List.filter_append]
      congr 1
      rw [List.filter_cons]
      cases labB (l.getD j nd0).s (o.getD i (ByteArray.empty, (false, false))) <;> rfl
    simp only [bautalaw12_NamesLeft_l11_T, run_br, run_ret, ltI_iff, inRange_iff, toNat_nat]
    rw [if_pos (by omega), if_pos (by omega), if_pos (by omega), i64_succ (by omega), ht]
    have hg5 : ((flt (l.getD j nd0).s (o.take i)).length + 1 : Int) * 24 < 140737488355328 := by omega
    have hg4 : (0 : Int) ≤ (i : Int) ∧ (i : Int) < (o.length : Int) := by omega
    simp only [hg5, if_true]
    cases hb : labB (l.getD j nd0).s (o.getD i (ByteArray.empty, (false, false))) with
    | true =>
      have hb' : ((o.getD i (ByteArray.empty, (false, false))).1.toList == (l.getD j nd0).s.toList) = true := hb
      rw [hb']
      simp
    | false =>
      have hb' : ((o.getD i (ByteArray.empty, (false, false))).1.toList == (l.getD j nd0).s.toList) = false := hb
      rw [hb']
      simp
      exact hi
  · simp only [bautalaw12_NamesLeft_l11_T, run_br, run_ret, ltI_iff, List.take_length]
    rw [if_neg (by omega)]
end
end Go.Proofs.YtfogafinohfpfaaGreatDoorV
