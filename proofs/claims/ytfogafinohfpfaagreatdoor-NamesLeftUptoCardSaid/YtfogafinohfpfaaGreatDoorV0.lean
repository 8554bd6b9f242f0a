/- What is known of the program's variables: tables; what is the longest needle: some number. -/
import Derived.Orders
namespace Go.Proofs.YtfogafinohfpfaaGreatDoorV
/-- Tables among the variables: numbers of a kind, or texts. -/
inductive GTab where
  | ints (k : IntKind) (l : List Int)
  | strs (l : List ByteArray)
def GTab.vals : GTab → List Value
  | .ints k l => l.map fun n => .int k n
  | .strs l => l.map fun s => .string s
def GTab.len : GTab → Nat
  | .ints _ l => l.length
  | .strs l => l.length
/-- The tables. -/
def GT : List (Nat × GTab) := [(0, .strs [⟨#[124]⟩, ByteArray.empty, ByteArray.empty, ⟨#[94]⟩, ByteArray.empty, ByteArray.empty, ⟨#[38]⟩, ByteArray.empty, ByteArray.empty, ⟨#[60, 60]⟩, ⟨#[62, 62]⟩, ⟨#[60, 60, 60]⟩, ⟨#[43]⟩, ⟨#[45]⟩, ByteArray.empty])]
/-- The blocks of variables that stay as they are. -/
def GB : List Nat := GT.map (·.1) ++ [4]
/-- What they hold. -/
def GW (w : World) : Prop := (∀ p ∈ GT, ∃ l z, w.heap[p.1]? = some (.cells p.2.vals.toArray l z)) ∧ ∀ g ∈ [4], ∃ m, w.cell? ⟨g, 0, none⟩ = some (.int .i64 m)
theorem gt_of {w : World} (g : GW w) {i : Nat} {t : GTab} (h : (i, t) ∈ GT) : i ∈ GB ∧ ∃ l z, w.heap[i]? = some (.cells t.vals.toArray l z) :=
  ⟨List.mem_append.2 (.inl (List.mem_map.2 ⟨_, h, rfl⟩)), g.1 _ h⟩
theorem gmx_of {w : World} (g : GW w) {i : Nat} (h : i ∈ [4]) : ∃ m, w.cell? ⟨i, 0, none⟩ = some (.int .i64 m) := g.2 _ h
theorem maxLen_of {w : World} (g : GW w) : ∃ m, w.cell? ⟨4, 0, none⟩ = some (.int .i64 m) := g.2 _ (by simp)
theorem GW_of {w w' : World} (h : ∀ b ∈ GB, w'.heap[b]? = w.heap[b]?) (g : GW w) : GW w' := by
  refine ⟨fun p hp => ?_, fun i hi => ?_⟩
  · rw [h _ (List.mem_append.2 (.inl (List.mem_map.2 ⟨_, hp, rfl⟩)))]; exact g.1 p hp
  · obtain ⟨m, hm⟩ := g.2 i hi
    refine ⟨m, ?_⟩
    have := h i (List.mem_append.2 (.inr hi))
    unfold World.cell? at *
    simp only at hm ⊢
    rw [this]; exact hm
end Go.Proofs.YtfogafinohfpfaaGreatDoorV
