/- What is known of the program's variables: nothing is asked. -/
import Derived.Orders
namespace Go.Proofs.YtnlkfkkgcaiklaaV
/-- The blocks of variables that stay as they are. -/
def GB : List Nat := []
/-- What they hold. -/
def GW (_ : World) : Prop := True
theorem GW_of {w w' : World} (_ : ∀ b ∈ GB, w'.heap[b]? = w.heap[b]?) (g : GW w) : GW w' := g
end Go.Proofs.YtnlkfkkgcaiklaaV
