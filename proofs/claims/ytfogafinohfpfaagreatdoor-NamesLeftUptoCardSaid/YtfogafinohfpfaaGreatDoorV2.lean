/- That a function's ranges are those that LA tells. -/
import Derived.Test.YtfogafinohfpfaaGreatDoorVx
namespace Go.Proofs.YtfogafinohfpfaaGreatDoorV
set_option linter.unusedVariables false

def loopKeys : Code → List Nat
  | .seq a b => loopKeys a ++ loopKeys b
  | .cond _ x y => loopKeys x ++ loopKeys y
  | .block _ c => loopKeys c
  | .loop c => loopKeys c
  | .rangeFunc _ _ assign body => [lkey assign body]
  | _ => []

theorem findLoop_mem {i : Nat} : ∀ {c : Code} {p : LCode}, findLoop i c = some p → i ∈ loopKeys c := by
  intro c
  induction c with
  | seq a b iha ihb =>
    intro p h
    simp only [findLoop] at h
    simp only [loopKeys, List.mem_append]
    split at h
    · rename_i q hq; exact .inl (iha hq)
    · exact .inr (ihb h)
  | cond o x y ihx ihy =>
    intro p h
    simp only [findLoop] at h
    simp only [loopKeys, List.mem_append]
    split at h
    · rename_i q hq; exact .inl (ihx hq)
    · exact .inr (ihy h)
  | block id c ih => intro p h; exact ih h
  | loop c ih => intro p h; exact ih h
  | rangeFunc g ps assign body =>
    intro p h
    simp only [findLoop] at h
    split at h
    · rename_i e; simp [loopKeys, e]
    · cases h
  | _ => intro p h; cases h

theorem findLoop_some {i : Nat} : ∀ {c : Code}, i ∈ loopKeys c → ∃ p, findLoop i c = some p := by
  intro c
  induction c with
  | seq a b iha ihb =>
    intro h
    simp only [loopKeys, List.mem_append] at h
    simp only [findLoop]
    cases ha : findLoop i a with
    | some p => exact ⟨p, rfl⟩
    | none =>
      rcases h with h | h
      · obtain ⟨p, hp⟩ := iha h; rw [ha] at hp; cases hp
      · exact ihb h
  | cond o x y ihx ihy =>
    intro h
    simp only [loopKeys, List.mem_append] at h
    simp only [findLoop]
    cases ha : findLoop i x with
    | some p => exact ⟨p, rfl⟩
    | none =>
      rcases h with h | h
      · obtain ⟨p, hp⟩ := ihx h; rw [ha] at hp; cases hp
      · exact ihy h
  | block id c ih => intro h; exact ih h
  | loop c ih => intro h; exact ih h
  | rangeFunc g ps assign body =>
    intro h
    simp only [loopKeys, List.mem_singleton] at h
    subst h
    exact ⟨(ps, assign, body), by simp only [findLoop, if_true]⟩
  | _ => intro h; simp [loopKeys] at h

theorem lok_sub {A : Ann} {c0 : Code} (hLA : ∀ key, LA (rid A.fn key) = findLoop key c0) : ∀ {c : Code}, (loopKeys c).Nodup → (∀ key ∈ loopKeys c, findLoop key c0 = findLoop key c) → LOK A c := by
  intro c
  induction c with
  | seq a b iha ihb =>
    intro hn h
    simp only [loopKeys] at hn h
    obtain ⟨h1, h2, h3⟩ := nodup_app hn
    refine ⟨iha h1 (fun k hk => ?_), ihb h2 (fun k hk => ?_)⟩
    · rw [h k (List.mem_append.2 (.inl hk))]
      obtain ⟨p, hp⟩ := findLoop_some hk
      simp only [findLoop, hp]
    · rw [h k (List.mem_append.2 (.inr hk))]
      simp only [findLoop]
      cases ha : findLoop k a with
      | none => rfl
      | some p => exact absurd hk (h3 k (findLoop_mem ha))
  | cond o x y ihx ihy =>
    intro hn h
    simp only [loopKeys] at hn h
    obtain ⟨h1, h2, h3⟩ := nodup_app hn
    refine ⟨ihx h1 (fun k hk => ?_), ihy h2 (fun k hk => ?_)⟩
    · rw [h k (List.mem_append.2 (.inl hk))]
      obtain ⟨p, hp⟩ := findLoop_some hk
      simp only [findLoop, hp]
    · rw [h k (List.mem_append.2 (.inr hk))]
      simp only [findLoop]
      cases ha : findLoop k x with
      | none => rfl
      | some p => exact absurd hk (h3 k (findLoop_mem ha))
  | block id c ih => intro hn h; exact ih hn h
  | loop c ih => intro hn h; exact ih hn h
  | rangeFunc g ps assign body =>
    intro hn h
    have := h (lkey assign body) (by simp [loopKeys])
    simp only [LOK]
    rw [hLA, this]
    simp only [findLoop, if_true]
  | _ => intro hn h; trivial

theorem rid_mod (f key : Nat) (h : f < 1000000) : rid f key % 1000000 = f ∧ rid f key / 1000000 - 1 = key := by
  unfold rid
  have e1 : (1000000 * (key + 1) + f) % 1000000 = f := by rw [Nat.mul_add_mod, Nat.mod_eq_of_lt h]
  have e2 : (1000000 * (key + 1) + f) / 1000000 = key + 1 := by rw [Nat.mul_add_div (by decide), Nat.div_eq_of_lt h, Nat.add_zero]
  exact ⟨e1, by rw [e2]; rfl⟩

theorem lok_of {A : Ann} {fn : Func} (hf : Tryz.prog.funcs[A.fn]? = some fn) (hb : fnB A.fn = true) (hn : nodupB (loopKeys (fn.body.getD .skip)) = true) : LOK A (fn.body.getD .skip) := by
  cases hc : fn.body with
  | none => trivial
  | some c =>
    rw [hc] at hn
    have hlt : A.fn < 1000000 := by unfold fnB at hb; rw [Nat.blt_eq] at hb; exact hb
    refine lok_sub (c0 := c) (fun key => ?_) (nodupB_ok hn) (fun _ _ => rfl)
    obtain ⟨h1, h2⟩ := rid_mod A.fn key hlt
    unfold LA
    rw [h1, h2, hf]
    simp only [hc]
end Go.Proofs.YtfogafinohfpfaaGreatDoorV
