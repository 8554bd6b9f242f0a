/- Calls of functions whose arguments are known: by running them. -/
import Derived.Test.YtfogafinohfpfaaGreatDoorVt
namespace Go.Proofs.YtfogafinohfpfaaGreatDoorV
open Go.RowKit
set_option linter.unusedVariables false

def entersB (fn : Func) : Bool := fn.body.isSome && !(fn.name == "runtime.NumGoroutine")

theorem enters_run {P : Program} {f : FuncId} {fn : Func} (hf : P.funcs[f]? = some fn) (h : entersB fn = true) : Enters P f := by
  intro args w
  simp only [entersB, Bool.and_eq_true, Bool.not_eq_true', beq_eq_false_iff_ne] at h
  obtain ⟨h1, h2⟩ := h
  have h3 : fn.body ≠ none := by intro e; simp [e] at h1
  simp [callFunc, hf, h2, h3]

/-- Run: n calls deep. -/
noncomputable def lvl (P : Program) (md : FuncId → List Bool) (fz : FuncId → Bool) (fuel : Nat) : Nat → FuncId → List AV → Rows → Option CallR
  | 0 => fun _ _ _ => none
  | n + 1 => fun f avs m => match P.funcs[f]? with
    | some fn => bif entersB fn && (fnB f && noRange (fn.body.getD .skip)) then some ⟨m.length, [], Bool × AV × Rows, acall { cx := ⟨P, lvl P md fz fuel n, md⟩, mm := m.length, fuel := fuel, tab := [], xk := fun _ _ => [], L := fun _ _ => none } (fz f) fn avs m, id, fun R y k => k y.1 y.2.1 y.2.2, fun _ _ _ => rfl⟩ else none
    | none => none

theorem lvl_ok {P : Program} (hm : P.follows .mixedOrders = true) (md : FuncId → List Bool) (fz : FuncId → Bool) (fuel : Nat) : ∀ n, DOK ⟨P, lvl P md fz fuel n, md⟩
  | 0 => fun f avs m c h => by simp [lvl] at h
  | n + 1 => fun f avs m c h => by
    simp only [lvl] at h
    split at h
    · rename_i fn hf
      cases he : entersB fn && (fnB f && noRange (fn.body.getD .skip)) with
      | false => rw [he] at h; cases h
      | true =>
        rw [he] at h
        simp only [cond_true, Option.some.injEq] at h
        subst h
        simp only [Bool.and_eq_true] at he
        obtain ⟨he, hfb, hnr⟩ := he
        refine ⟨fun _ => enters_run hf he, fun y hy => ?_⟩
        obtain ⟨pn, res, m'⟩ := y
        refine ⟨?_, trivial⟩
        exact acall_ok (A := { cx := ⟨P, lvl P md fz fuel n, md⟩, mm := m.length, fuel := fuel, tab := [], xk := fun _ _ => [], L := fun _ _ => none }) (lvl_ok hm md fz fuel n) hm hfb hf (fun c hc => ⟨TOK.nil rfl c, lok_none (by rw [hc] at hnr; exact hnr)⟩) hy
    · cases h

/-- What is known of one function more. -/
theorem DOK.or {P : Program} {md : FuncId → List Bool} {D D' : FuncId → List AV → Rows → Option CallR} (h : DOK ⟨P, D, md⟩) (h' : DOK ⟨P, D', md⟩) : DOK ⟨P, fun f avs m => match D f avs m with | some c => some c | none => D' f avs m, md⟩ := by
  intro f avs m c hc
  simp only at hc
  cases hc' : D f avs m with
  | some x =>
    rw [hc'] at hc
    cases hc
    exact h f avs m c hc'
  | none =>
    rw [hc'] at hc
    exact h' f avs m c hc
end Go.Proofs.YtfogafinohfpfaaGreatDoorV
