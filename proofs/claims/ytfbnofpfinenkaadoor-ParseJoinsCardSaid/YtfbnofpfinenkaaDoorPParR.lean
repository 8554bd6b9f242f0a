/- Two runs of the parser over tokens that agree, side by side. -/
import Derived.Test.YtfbnofpfinenkaaDoorPParB
namespace Go.Proofs.YtfbnofpfinenkaaDoorV
set_option linter.unusedVariables false
set_option linter.unusedSimpArgs false

/-! ### Trees that are one but for places, of a depth -/
mutual
inductive NE : Nat → Node → Node → Prop where
  | mk {d : Nat} {k : Int} {s : ByteArray} {n a a' : Int} {l l' : List Node} {p : List ByteArray} (h : NEs d l l') (hl : l.length ≤ 5000) (hp : p.length ≤ 5000) : NE (d + 1) (.mk k s n a l p) (.mk k s n a' l' p)
inductive NEs : Nat → List Node → List Node → Prop where
  | nil {d : Nat} : NEs d [] []
  | cons {d : Nat} {x y : Node} {l l' : List Node} (h : NE d x y) (hs : NEs d l l') : NEs d (x :: l) (y :: l')
end

mutual
theorem NE.mono : ∀ {d d' : Nat} {x y : Node}, NE d x y → d ≤ d' → NE d' x y
  | _, d', _, _, .mk (d := d) h hl hp, hd => by
    obtain ⟨e, rfl⟩ : ∃ e, d' = e + 1 := ⟨d' - 1, by omega⟩
    exact .mk (NEs.mono h (by omega)) hl hp
theorem NEs.mono : ∀ {d d' : Nat} {x y : List Node}, NEs d x y → d ≤ d' → NEs d' x y
  | _, _, _, _, .nil, _ => .nil
  | _, _, _, _, .cons h hs, hd => .cons (NE.mono h hd) (NEs.mono hs hd)
end

theorem NEs.app {d : Nat} : ∀ {a b c e : List Node}, NEs d a b → NEs d c e → NEs d (a ++ c) (b ++ e)
  | _, _, _, _, .nil, h2 => h2
  | _, _, _, _, .cons h hs, h2 => .cons h (NEs.app hs h2)
theorem NEs.len {d : Nat} : ∀ {a b : List Node}, NEs d a b → b.length = a.length
  | _, _, .nil => rfl
  | _, _, .cons h hs => by simp [NEs.len hs]
theorem NEs.at {d : Nat} : ∀ {a b : List Node} (i : Nat), NEs d a b → i < a.length → NE d (a.getD i (Node.mk 0 ByteArray.empty 0 0 [] [])) (b.getD i (Node.mk 0 ByteArray.empty 0 0 [] []))
  | _, _, _, .nil, hi => by simp at hi
  | _, _, 0, .cons h hs, _ => by simpa using h
  | _, _, i + 1, .cons h hs, hi => by simpa using NEs.at i hs (by simpa using hi)
theorem NE.place {d : Nat} {k k' : Int} {s s' : ByteArray} {n n' a a' b b' : Int} {l l' : List Node} {p p' : List ByteArray} (h : NE d (.mk k s n a l p) (.mk k' s' n' a' l' p')) : NE d (.mk k s n b l p) (.mk k' s' n' b' l' p') := by
  cases h with
  | mk h hl hp => exact .mk h hl hp

/-! ### Same -/
theorem names_same (N : Nat) {l : List ByteArray} (hl : l.length ≤ 5000) (hN : 20030 < N) : bautaref10_Names N l l = some true := by
  have hloop : bautaref10_Names_l4 N l l 0 = some (.inr ()) := by
    have : OS (bautaref10_Names_l4 N l l 0) (fun y => y = .inr ()) := by
      refine loop_ts (fun i : Int => 0 ≤ i ∧ i ≤ (l.length : Int)) (fun i => ((l.length : Int) - i).toNat) _ ?_ N 0 (by omega) (by omega)
      intro i hi
      refine TS.br (fun hc => ?_) (fun hc => TS.ret rfl)
      rw [ltI_iff] at hc
      have hr : inRange i l.length = true := by rw [inRange_iff]; omega
      refine TS.brT hr (TS.brT hr ?_)
      refine TS.br (fun h => ?_) (fun _ => TS.ret ?_)
      · simp at h
      · dsimp only
        rw [i64_in (by omega)]
        omega
    obtain ⟨y, h, rfl⟩ := this
    exact h
  simp only [bautaref10_Names, bautaref10_Names_T, run_br, run_call, hloop, Option.bind_some, run_inr, run_ret]
  rw [if_neg (by simp)]

theorem same_ok (N : Nat) (hN : 20030 < N) : ∀ (k d : Nat) {x y : Node}, NE d x y → d ≤ k → bautaref10_Same_R N k (Node.k x) (Node.s x) (Node.n x) (Node.a x) (Node.l x) (Node.p x) (Node.k y) (Node.s y) (Node.n y) (Node.a y) (Node.l y) (Node.p y) false = some true
  | 0, d, x, y, h, hd => by
    cases h; omega
  | k + 1, d, x, y, h, hd => by
    cases h with
    | mk h hl hp =>
      rename_i d k0 s n a a' l l' p
      have hlen := h.len
      have hloop : bautaref10_Same_l4 N (bautaref10_Same_R N k) false l l' 0 = some (.inr ()) := by
        have : OS (bautaref10_Same_l4 N (bautaref10_Same_R N k) false l l' 0) (fun y => y = .inr ()) := by
          refine loop_ts (fun i : Int => 0 ≤ i ∧ i ≤ (l.length : Int)) (fun i => ((l.length : Int) - i).toNat) _ ?_ N 0 (by omega) (by omega)
          intro i hi
          refine TS.br (fun hc => ?_) (fun hc => TS.ret rfl)
          rw [ltI_iff] at hc
          refine TS.brT (by rw [inRange_iff]; omega) (TS.brT (by rw [inRange_iff, hlen]; omega) ?_)
          refine TS.call (P := fun b => b = true) ⟨_, same_ok N hN k d (h.at i.toNat (by omega)) (by omega), rfl⟩ (fun b hb => ?_)
          subst hb
          refine TS.br (fun h => by cases h) (fun _ => TS.ret ?_)
          dsimp only
          rw [i64_in (by omega)]
          omega
        obtain ⟨y, h, rfl⟩ := this
        exact h
      simp only [bautaref10_Same_R, bautaref10_Same_T, Node.k, Node.s, Node.n, Node.a, Node.l, Node.p, run_br, run_call, run_ret, names_same N hp hN, Option.bind_some, bautaref10_Same_j3, bautaref10_Same_j3_T, hloop, run_inr, hlen]
      simp
end Go.Proofs.YtfbnofpfinenkaaDoorV
