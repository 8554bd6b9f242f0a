/- Calls of functions whose arguments are known: by running them. -/
import Derived.Test.YtklnpdnfjponpaaDoorVt
namespace Go.Proofs.YtklnpdnfjponpaaDoorV
open Go.RowKit
set_option linter.unusedVariables false

def entersB (fn : Func) : Bool := fn.body.isSome && !(fn.name == "runtime.NumGoroutine")

theorem enters_run {P : Program} {f : FuncId} {fn : Func} (hf : P.funcs[f]? = some fn) (h : entersB fn = true) : Enters P f := by
  intro args w
  simp only [entersB, Bool.and_eq_true, Bool.not_eq_true', beq_eq_false_iff_ne] at h
  obtain ⟨h1, h2⟩ := h
  have h3 : fn.body ≠ none := by intro e; simp [e] at h1
  simp [callFunc, hf, h2, h3]

/-- Run: n calls deep. -/
noncomputable def lvl (P : Program) (md : FuncId → List Bool) (fz : FuncId → Bool) (fuel : Nat) : Nat → FuncId → List AV → Rows → Option CallR
  | 0 => fun _ _ _ => none
  | n + 1 => fun f as m => match P.funcs[f]? with
    | some fn => bif entersB fn then some ⟨AV × Rows, acall ⟨⟨P, lvl P md fz fuel n, md⟩, m.length, fuel, [], fun _ _ => [], fun _ _ => none⟩ (fz f) fn as m, id⟩ else none
    | none => none

theorem lvl_ok {P : Program} (hm : P.follows .mixedOrders = true) (md : FuncId → List Bool) (fz : FuncId → Bool) (fuel : Nat) : ∀ n, DOK ⟨P, lvl P md fz fuel n, md⟩
  | 0 => fun f as m c h => by simp [lvl] at h
  | n + 1 => fun f as m c h => by
    simp only [lvl] at h
    split at h
    · rename_i fn hf
      cases he : entersB fn with
      | false => rw [he] at h; cases h
      | true =>
        rw [he] at h
        simp only [cond_true, Option.some.injEq] at h
        subst h
        refine ⟨enters_run hf he, fun y hy => ?_⟩
        exact acall_ok (A := ⟨⟨P, lvl P md fz fuel n, md⟩, m.length, fuel, [], fun _ _ => [], fun _ _ => none⟩) (lvl_ok hm md fz fuel n) hm hf (fun c _ => TOK.nil rfl c) rfl hy
    · cases h

/-- What is known of one function more. -/
theorem DOK.or {P : Program} {md : FuncId → List Bool} {D D' : FuncId → List AV → Rows → Option CallR} (h : DOK ⟨P, D, md⟩) (h' : DOK ⟨P, D', md⟩) : DOK ⟨P, fun f as m => match D f as m with | some c => some c | none => D' f as m, md⟩ := by
  intro f as m c hc
  simp only at hc
  cases hc' : D f as m with
  | some x =>
    rw [hc'] at hc
    cases hc
    exact h f as m c hc'
  | none =>
    rw [hc'] at hc
    exact h' f as m c hc
end Go.Proofs.YtklnpdnfjponpaaDoorV
