/- Trees: what Parts and Small tell. -/
import Derived.Test.YtfogafinohfpfaaGreatDoorPNlTA
namespace Go.Proofs.YtfogafinohfpfaaGreatDoorV
set_option linter.unusedVariables false
set_option linter.unusedSimpArgs false

theorem parts_R (N : Nat) (hN : 4000 < N) : ∀ (k : Nat) (x : Node) (d m : Int), 0 ≤ d → d < k ∧ d ≤ 100000 → 0 ≤ m → m ≤ 3000 →
    OS (bautaref10_Parts_R N k x.k x.s x.n x.a x.l x.p d m) (fun r => 1 ≤ r ∧ r ≤ m + 1 ∧ (r ≤ m → (cntN x : Int) = r ∧ (depN x : Int) ≤ d))
  | 0, x, d, m, h1, h2, _, _ => by omega
  | k + 1, x, d, m, h1, h2, h3, h4 => by
    refine OS.of ?_
    unfold bautaref10_Parts_T
    refine TS.br (fun hc => ?_) (fun hc => ?_)
    · refine TS.ret ?_
      rw [ltI_eq, decide_eq_true_eq] at hc
      rw [i64_in (by omega)]
      exact ⟨by omega, by omega, fun h => by omega⟩
    refine TS.br (fun hc2 => ?_) (fun hc2 => ?_)
    · refine TS.ret ?_
      rw [i64_in (by omega)]
      exact ⟨by omega, by omega, fun h => by omega⟩
    rw [ltI_eq, decide_eq_false_iff_not] at hc hc2
    refine TS.call (P := fun r => 1 ≤ r ∧ r ≤ m + 1 ∧ (r ≤ m → (cntN x : Int) = r ∧ (depN x : Int) ≤ d)) ?_ (fun y hy => TS.ret hy)
    refine TS.call (P := fun r => 1 ≤ r ∧ r ≤ m + 1 ∧ (r ≤ m → (cntN x : Int) = r ∧ (depN x : Int) ≤ d)) ?_ (fun y hy => TS.ret hy)
    refine loop_os (fun v : Int × Int => 0 ≤ v.2 ∧ v.2 ≤ x.l.length ∧ 1 ≤ v.1 ∧ v.1 ≤ m + 1 ∧ v.2 < v.1 ∧ (v.1 ≤ m → (cntL (x.l.take v.2.toNat) : Int) + 1 = v.1 ∧ (depL (x.l.take v.2.toNat) : Int) ≤ d - 1)) (fun v => (m + 1 - v.2).toNat) _ ?_ (by dsimp only; omega) ?_
    · dsimp only
      refine ⟨by omega, by omega, by omega, by omega, by omega, fun _ => ?_⟩
      simp only [Int.toNat_zero, List.take_zero, cntL, depL]
      omega
    · intro v hv
      obtain ⟨p1, p2, p3, p4, p4', p5⟩ := hv
      unfold bautaref10_Parts_l5_T
      refine TS.br (fun hc3 => ?_) (fun hc3 => ?_)
      · rw [ltI_eq, decide_eq_true_eq] at hc3
        refine TS.br (fun hc4 => ?_) (fun hc4 => ?_)
        · rw [leI_eq, decide_eq_true_eq] at hc4
          have hi : v.2.toNat < x.l.length := by omega
          obtain ⟨q1, q2⟩ := p5 hc4
          have e1 : IntKind.i64.wrap (d - 1) = d - 1 := i64_in (by omega)
          have e2 : IntKind.i64.wrap (m - v.1) = m - v.1 := i64_in (by omega)
          refine TS.call (P := fun y => y.2 = v.2 + 1 ∧ v.1 < y.1 ∧ y.1 ≤ m + 1 ∧ (y.1 ≤ m → (cntL (x.l.take (v.2.toNat + 1)) : Int) + 1 = y.1 ∧ (depL (x.l.take (v.2.toNat + 1)) : Int) ≤ d - 1)) ?_ (fun y hy => ?_)
          · refine OS.of ?_
            unfold bautaref10_Parts_j7_T
            refine TS.brT (by rw [inRange_iff]; omega) ?_
            dsimp only
            rw [e1, e2]
            refine TS.call (parts_R N hN k (x.l.getD v.2.toNat nd0) (d - 1) (m - v.1) (by omega) (by omega) (by omega) (by omega)) (fun r hr => TS.ret ?_)
            obtain ⟨r1, r2, r3⟩ := hr
            dsimp only
            rw [i64_in (by omega), i64_in (by omega)]
            refine ⟨rfl, by omega, by omega, fun h => ?_⟩
            obtain ⟨r4, r5⟩ := r3 (by omega)
            rw [cntL_take _ hi, depL_take _ hi]
            omega
          · obtain ⟨y1, y2, y3, y4⟩ := hy
            refine TS.ret ?_
            dsimp only [EP]
            rw [y1]
            refine ⟨⟨by omega, by omega, by omega, by omega, by omega, fun h => ?_⟩, by omega⟩
            have : (v.2 + 1).toNat = v.2.toNat + 1 := by omega
            rw [this]
            exact y4 h
        · rw [leI_eq, decide_eq_false_iff_not] at hc4
          refine TS.ret ⟨by omega, by omega, fun h => absurd h hc4⟩
      · rw [ltI_eq, decide_eq_false_iff_not] at hc3
        refine TS.ret ⟨by omega, by omega, fun h => ?_⟩
        obtain ⟨q1, q2⟩ := p5 h
        rw [List.take_of_length_le (by omega)] at q1 q2
        rw [cntN_eq, depN_eq]
        omega

/-- What a small tree is. -/
theorem small_is (N : Nat) (hN : 4000 < N) (x : Node) : OS (bautalaw11_Small N x.k x.s x.n x.a x.l x.p) (fun b => b = true → cntN x ≤ 3000 ∧ depN x ≤ 300) := by
  refine OS.of ?_
  unfold bautalaw11_Small_T
  refine TS.call (parts_R N hN N x 300 3000 (by omega) (by omega) (by omega) (by omega)) (fun r hr => TS.ret ?_)
  intro h
  rw [leI_eq, decide_eq_true_eq] at h
  obtain ⟨h1, h2⟩ := hr.2.2 h
  omega
end Go.Proofs.YtfogafinohfpfaaGreatDoorV
