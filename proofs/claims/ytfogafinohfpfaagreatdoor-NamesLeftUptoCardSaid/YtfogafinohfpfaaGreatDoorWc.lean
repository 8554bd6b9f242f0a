/- How long a law's lists may be, by the row's reach. -/
import Derived.Test.YtfogafinohfpfaaGreatDoorWb
namespace Go.Proofs.YtfogafinohfpfaaGreatDoorV
open Go.RowKit

/-- A list is no longer than the row's reach lets it be. -/
theorem list_len {H : Type} {enc : TypeId × Value → H} {P : Program} {w : World} {held : Bool} {spare : Nat → Bool} {t e : TypeId} {ty : Ty} {xs : List (El ty)} {v : Value} {d : DataW H} {ps : List MemPlace} {Im : Nat → Prop} {ρ : Nat → Loc} {ts : List TypeId} {ds : List (DataW H)} {j : Nat}
    (hu : P.underlying t = some (.slice e)) (hv : VR w Im ρ (.imm ty xs) v) (h : DataW.Trod enc P w 0 spare held t v d ps) (hsz : (DataW.weightsEach P ts ds).all (· ≤ reachBytes) = true) (ht : ts[j]? = some t) (hd : ds[j]? = some d) : xs.length * P.bytesOf e ≤ reachBytes := by
  obtain ⟨A, cap, e1, hcap, -⟩ := hv
  simp only [List.cons.injEq, and_true] at e1
  subst e1
  obtain ⟨fuel, hf⟩ := h
  cases fuel with
  | zero => simp [DataW.trod] at hf
  | succ fuel =>
    cases A with
    | none =>
      have : xs.length = 0 := by
        unfold DataW.trod at hf
        simp only [hu, Value.cells] at hf
        split at hf <;> simp_all
      rw [this, Nat.zero_mul]
      exact Nat.zero_le _
    | some a =>
      have : ∃ elems rest, d = .slice elems rest ∧ elems.length = xs.length := by
        unfold DataW.trod at hf
        simp only [hu, Value.cells] at hf
        split at hf
        · simp only [Option.bind_eq_some_iff] at hf
          obtain ⟨elems, hel, hf⟩ := hf
          simp only [Option.map_eq_some_iff] at hf
          obtain ⟨rest, hr, hx⟩ := hf
          simp only [Prod.mk.injEq] at hx
          exact ⟨_, _, hx.1.symm, by rw [List.length_map, (mapM_range hel).1]⟩
        · cases hf
      obtain ⟨elems, rest, rfl, hl⟩ := this
      have := sized_slice hsz ht hd hu
      rw [hl] at this
      exact Nat.le_trans (Nat.mul_le_mul_right _ (Nat.le_add_right _ _)) this

theorem mapM_get {α β : Type} {f : α → Option β} : ∀ {l : List α} {r : List β}, l.mapM f = some r → ∀ {i : Nat} {a : α}, l[i]? = some a → ∃ b, r[i]? = some b ∧ f a = some b
  | [], r, h, i, a, ha => by simp at ha
  | x :: l, r, h, i, a, ha => by
    obtain ⟨b, r', hb, hr, rfl⟩ := mapM_cons_some h
    cases i with
    | zero =>
      simp only [List.getElem?_cons_zero, Option.some.injEq] at ha
      subst ha
      exact ⟨b, rfl, hb⟩
    | succ i =>
      simp only [List.getElem?_cons_succ] at ha ⊢
      exact mapM_get hr ha

/-- What is told of a list, weighs as much as it is long. -/
theorem trod_slice_len {H : Type} {enc : TypeId × Value → H} {P : Program} {w : World} {held : Bool} {spare : Nat → Bool} {fuel : Nat} {t e : TypeId} {ty : Ty} {xs : List (El ty)} {v : Value} {d : DataW H} {ps : List MemPlace} {Im : Nat → Prop} {ρ : Nat → Loc}
    (hu : P.underlying t = some (.slice e)) (hv : VR w Im ρ (.imm ty xs) v) (hf : DataW.trod enc P w 0 spare held fuel t [v] = some (d, ps)) (hw : ∀ n ∈ d.weights P t, n ≤ reachBytes) : xs.length * P.bytesOf e ≤ reachBytes := by
  obtain ⟨A, cap, e1, hcap, -⟩ := hv
  simp only [List.cons.injEq, and_true] at e1
  subst e1
  cases fuel with
  | zero => simp [DataW.trod] at hf
  | succ fuel =>
    cases A with
    | none =>
      have : xs.length = 0 := by
        unfold DataW.trod at hf
        simp only [hu] at hf
        split at hf <;> simp_all
      rw [this, Nat.zero_mul]
      exact Nat.zero_le _
    | some a =>
      have : ∃ elems rest, d = .slice elems rest ∧ elems.length = xs.length := by
        unfold DataW.trod at hf
        simp only [hu] at hf
        split at hf
        · simp only [Option.bind_eq_some_iff] at hf
          obtain ⟨elems, hel, hf⟩ := hf
          simp only [Option.map_eq_some_iff] at hf
          obtain ⟨rest, hr, hx⟩ := hf
          simp only [Prod.mk.injEq] at hx
          exact ⟨_, _, hx.1.symm, by rw [List.length_map, (mapM_range hel).1]⟩
        · cases hf
      obtain ⟨elems, rest, rfl, hl⟩ := this
      have := hw ((elems.length + rest.length) * P.bytesOf e) (by simp [DataW.weights, hu])
      rw [hl] at this
      exact Nat.le_trans (Nat.mul_le_mul_right _ (Nat.le_add_right _ _)) this

/-- A list that is a struct's part is no longer than the row's reach lets it be. -/
theorem field_len {H : Type} {enc : TypeId × Value → H} {P : Program} {w : World} {held : Bool} {spare : Nat → Bool} {t e : TypeId} {ty : Ty} {xs : List (El ty)} {v c : Value} {d : DataW H} {ps : List MemPlace} {Im : Nat → Prop} {ρ : Nat → Loc} {ts : List TypeId} {ds : List (DataW H)} {j k : Nat} {fs : Array Field} {f : Field}
    (hs : P.underlying t = some (.struct fs)) (hk : fs.toList[k]? = some f) (h1 : P.cellsOf f.type = 1) (hu : P.underlying f.type = some (.slice e)) (hc : v.cells.toList[f.offset]? = some c) (hv : VR w Im ρ (.imm ty xs) c)
    (h : DataW.Trod enc P w 0 spare held t v d ps) (hsz : (DataW.weightsEach P ts ds).all (· ≤ reachBytes) = true) (ht : ts[j]? = some t) (hd : ds[j]? = some d) : xs.length * P.bytesOf e ≤ reachBytes := by
  obtain ⟨fuel, hf⟩ := h
  cases fuel with
  | zero => simp [DataW.trod] at hf
  | succ fuel =>
    unfold DataW.trod at hf
    simp only [hs] at hf
    split at hf
    · simp only [Option.map_eq_some_iff] at hf
      obtain ⟨xs', hm, hx⟩ := hf
      simp only [Prod.mk.injEq] at hx
      obtain ⟨rfl, -⟩ := hx
      obtain ⟨b, hb, hfb⟩ := mapM_get hm hk
      have e1 : (v.cells.toList.drop f.offset).take (P.cellsOf f.type) = [c] := by
        rw [h1]
        obtain ⟨hlt, rfl⟩ := List.getElem?_eq_some_iff.1 hc
        rw [List.drop_eq_getElem_cons hlt]
        rfl
      rw [e1] at hfb
      refine trod_slice_len (fuel := fuel) (d := b.1) (ps := b.2) hu hv hfb (fun n hn => ?_)
      have m1 : n ∈ DataW.weightsEach P (fs.toList.map (·.type)) (xs'.map (·.1)) := DataW.weights_mem_each (j := k) (by rw [List.getElem?_map, hk]; rfl) (by rw [List.getElem?_map, hb]; rfl) n hn
      have m2 : n ∈ (DataW.agg (xs'.map (·.1)) : DataW H).weights P t := by simpa only [DataW.weights, hs] using m1
      have := List.all_eq_true.1 hsz _ (DataW.weights_mem_each ht hd n m2)
      simpa using this
    · cases hf
end Go.Proofs.YtfogafinohfpfaaGreatDoorV
