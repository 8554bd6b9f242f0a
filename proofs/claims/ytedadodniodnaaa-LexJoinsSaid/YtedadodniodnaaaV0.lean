/- What is known of the program's variables: what is the longest needle: some number. -/
import Derived.Orders
namespace Go.Proofs.YtedadodniodnaaaV
/-- The blocks of variables that stay as they are. -/
def GB : List Nat := [0]
/-- What they hold. -/
def GW (w : World) : Prop := ∃ m, w.cell? ⟨0, 0, none⟩ = some (.int .i64 m)
theorem maxLen_of {w : World} (g : GW w) : ∃ m, w.cell? ⟨0, 0, none⟩ = some (.int .i64 m) := g
theorem GW_of {w w' : World} (h : ∀ b ∈ GB, w'.heap[b]? = w.heap[b]?) (g : GW w) : GW w' := by
  obtain ⟨m, hm⟩ := g
  refine ⟨m, ?_⟩
  have := h 0 (by simp [GB])
  unfold World.cell? at *
  simp only at hm ⊢
  rw [this]; exact hm
end Go.Proofs.YtedadodniodnaaaV
