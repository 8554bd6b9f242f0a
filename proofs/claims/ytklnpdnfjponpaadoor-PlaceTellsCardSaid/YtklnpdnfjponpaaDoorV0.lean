/- What is known of the program's variables: the table of the powers of ten. -/
import Derived.Orders
import Derived.Lib.ItoaNum
namespace Go.Proofs.YtklnpdnfjponpaaDoorV
/-- The blocks of variables that stay as they are. -/
def GB : List Nat := [1]
/-- What a variable's block holds. -/
def cellsAt (w : World) (g : Nat) : Option (Array Value) := match w.heap[g]? with
  | some (.cells cs _ _) => some cs
  | _ => none
/-- What they hold. -/
def GW (w : World) : Prop := cellsAt w 1 = some (Lib.pow10Tab.map fun z => Value.int .u64 z).toArray
theorem GW_of {w w' : World} (h : ∀ b ∈ GB, w'.heap[b]? = w.heap[b]?) (g : GW w) : GW w' := by
  unfold GW cellsAt at *
  rw [h 1 (by simp [GB])]
  exact g
end Go.Proofs.YtklnpdnfjponpaaDoorV
