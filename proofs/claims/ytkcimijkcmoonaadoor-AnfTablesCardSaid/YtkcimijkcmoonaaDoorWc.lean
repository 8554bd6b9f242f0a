/- How long a law's lists may be, by the row's reach. -/
import Derived.Test.YtkcimijkcmoonaaDoorWb
namespace Go.Proofs.YtkcimijkcmoonaaDoorV
open Go.RowKit

/-- A list is no longer than the row's reach lets it be. -/
theorem list_len {H : Type} {enc : TypeId × Value → H} {P : Program} {w : World} {held : Bool} {spare : Nat → Bool} {t e : TypeId} {ty : Ty} {xs : List (El ty)} {v : Value} {d : DataW H} {ps : List MemPlace} {Im : Nat → Prop} {ρ : Nat → Loc} {ts : List TypeId} {ds : List (DataW H)} {j : Nat}
    (hu : P.underlying t = some (.slice e)) (hv : VR w Im ρ (.imm ty xs) v) (h : DataW.Trod enc P w 0 spare held t v d ps) (hsz : (DataW.weightsEach P ts ds).all (· ≤ reachBytes) = true) (ht : ts[j]? = some t) (hd : ds[j]? = some d) : xs.length * P.bytesOf e ≤ reachBytes := by
  obtain ⟨A, cap, e1, hcap, -⟩ := hv
  simp only [List.cons.injEq, and_true] at e1
  subst e1
  obtain ⟨fuel, hf⟩ := h
  cases fuel with
  | zero => simp [DataW.trod] at hf
  | succ fuel =>
    cases A with
    | none =>
      have : xs.length = 0 := by
        unfold DataW.trod at hf
        simp only [hu, Value.cells] at hf
        split at hf <;> simp_all
      rw [this, Nat.zero_mul]
      exact Nat.zero_le _
    | some a =>
      have : ∃ elems rest, d = .slice elems rest ∧ elems.length = xs.length := by
        unfold DataW.trod at hf
        simp only [hu, Value.cells] at hf
        split at hf
        · simp only [Option.bind_eq_some_iff] at hf
          obtain ⟨elems, hel, hf⟩ := hf
          simp only [Option.map_eq_some_iff] at hf
          obtain ⟨rest, hr, hx⟩ := hf
          simp only [Prod.mk.injEq] at hx
          exact ⟨_, _, hx.1.symm, by rw [List.length_map, (mapM_range hel).1]⟩
        · cases hf
      obtain ⟨elems, rest, rfl, hl⟩ := this
      have := sized_slice hsz ht hd hu
      rw [hl] at this
      exact Nat.le_trans (Nat.mul_le_mul_right _ (Nat.le_add_right _ _)) this
end Go.Proofs.YtkcimijkcmoonaaDoorV
