/- What the bound on a call's bulk says of a tree. -/
import Derived.Test.YtfogafinohfpfaaGreatDoorWd
import Derived.Test.YtfogafinohfpfaaGreatDoorRows
namespace Go.Proofs.YtfogafinohfpfaaGreatDoorV
open Go.RowKit
set_option linter.unusedVariables false

theorem bulk_part {H : Type} {d : DataW H} {l : List (DataW H)} (h : d ∈ l) : Go.Proofs.YtfogafinohfpfaaGreatDoor.Rows.uptoBulk d ≤ Go.Proofs.YtfogafinohfpfaaGreatDoor.Rows.uptoBulkAll l := by
  induction l with
  | nil => cases h
  | cons x r ih =>
    simp only [Go.Proofs.YtfogafinohfpfaaGreatDoor.Rows.uptoBulkAll]
    cases List.mem_cons.1 h with
    | inl e => subst e; omega
    | inr e => have := ih e; omega
theorem bulk_one {H : Type} (d : DataW H) : 1 ≤ Go.Proofs.YtfogafinohfpfaaGreatDoor.Rows.uptoBulk d := by
  cases d with
  | lit l => cases l <;> simp [Go.Proofs.YtfogafinohfpfaaGreatDoor.Rows.uptoBulk]
  | _ => simp [Go.Proofs.YtfogafinohfpfaaGreatDoor.Rows.uptoBulk]
theorem bulk_len {H : Type} (l : List (DataW H)) : l.length ≤ Go.Proofs.YtfogafinohfpfaaGreatDoor.Rows.uptoBulkAll l := by
  induction l with
  | nil => simp [Go.Proofs.YtfogafinohfpfaaGreatDoor.Rows.uptoBulkAll]
  | cons x r ih => have := bulk_one x; simp only [Go.Proofs.YtfogafinohfpfaaGreatDoor.Rows.uptoBulkAll, List.length_cons]; omega

/-- No node bears more names than so many. -/
inductive NK (b : Nat) : Node → Prop
  | mk (k : Int) (s : ByteArray) (n a : Int) (l : List Node) (p : List ByteArray) (hl : ∀ i (h : i < l.length), NK b l[i]) (hp : p.length ≤ b) : NK b (.mk k s n a l p)

section
variable {H : Type} {enc : TypeId × Value → H} {P : Program} {w : World} {held : Bool} {spare : Nat → Bool}

theorem trod_node2 {t : TypeId} (hn : isNode P t = true) {fuel : Nat} {cs : List Value} {d : DataW H} {ps : List MemPlace} (h : DataW.trod enc P w 0 spare held (fuel + 1) t cs = some (d, ps)) :
    ∃ f4 f5 c4 c5 d4 p4 d5 p5, P.underlying f4 = some (.slice t) ∧ P.underlying f5 = some (.slice (strOf P t)) ∧ cs[4]? = some c4 ∧ cs[5]? = some c5 ∧ cs.length = 6 ∧
      DataW.trod enc P w 0 spare held fuel f4 [c4] = some (d4, p4) ∧ DataW.trod enc P w 0 spare held fuel f5 [c5] = some (d5, p5) ∧ Go.Proofs.YtfogafinohfpfaaGreatDoor.Rows.uptoBulk d4 ≤ Go.Proofs.YtfogafinohfpfaaGreatDoor.Rows.uptoBulk d ∧ Go.Proofs.YtfogafinohfpfaaGreatDoor.Rows.uptoBulk d5 ≤ Go.Proofs.YtfogafinohfpfaaGreatDoor.Rows.uptoBulk d := by
  obtain ⟨fs, f0, f1, f2, f3, f4, f5, e', hu, hfs, u0, u1, u2, u3, u4, u5, ue, hc, hce, ⟨o0, o1, o2, o3, o4, o5⟩, z0, z1, z2, z3, z4, z5⟩ := isNode_open hn
  have hso : strOf P t = e' := by unfold strOf; simp only [hu, hfs, u5]
  unfold DataW.trod at h
  simp only [hu] at h
  split at h
  · rename_i hl
    rw [hc] at hl
    obtain ⟨c0, c1, c2, c3, c4, c5, rfl⟩ : ∃ c0 c1 c2 c3 c4 c5, cs = [c0, c1, c2, c3, c4, c5] := by
      match cs, hl with
      | [c0, c1, c2, c3, c4, c5], _ => exact ⟨_, _, _, _, _, _, rfl⟩
    simp only [Option.map_eq_some_iff] at h
    obtain ⟨xs, hm, hx⟩ := h
    simp only [Prod.mk.injEq] at hx
    obtain ⟨rfl, -⟩ := hx
    obtain ⟨b4, hb4, h4⟩ := mapM_get hm (i := 4) (a := f4) (by rw [hfs]; rfl)
    obtain ⟨b5, hb5, h5⟩ := mapM_get hm (i := 5) (a := f5) (by rw [hfs]; rfl)
    rw [o4, z4] at h4
    rw [o5, z5] at h5
    have m4 := bulk_part (List.mem_map.2 ⟨b4, List.mem_of_getElem? hb4, rfl⟩ : b4.1 ∈ xs.map (·.1))
    have m5 := bulk_part (List.mem_map.2 ⟨b5, List.mem_of_getElem? hb5, rfl⟩ : b5.1 ∈ xs.map (·.1))
    refine ⟨f4.type, f5.type, c4, c5, b4.1, b4.2, b5.1, b5.2, u4, by rw [hso]; exact u5, rfl, rfl, rfl, h4, h5, ?_, ?_⟩
    · simp only [Go.Proofs.YtfogafinohfpfaaGreatDoor.Rows.uptoBulk]; omega
    · simp only [Go.Proofs.YtfogafinohfpfaaGreatDoor.Rows.uptoBulk]; omega
  · cases h

theorem node_bulk {t : TypeId} (hn : isNode P t = true) {b : Nat} {Im : Nat → Prop} : ∀ (fuel : Nat) (cs : List Value) (d : DataW H) (ps : List MemPlace) (x : Node), DataW.trod enc P w 0 spare held fuel t cs = some (d, ps) →
    IR w Im .node x cs → Go.Proofs.YtfogafinohfpfaaGreatDoor.Rows.uptoBulk d ≤ b → NK b x := by
  have h6 : P.cellsOf t = 6 := by
    obtain ⟨fs, f0, f1, f2, f3, f4, f5, e', hu, hfs, u0, u1, u2, u3, u4, u5, ue, hc, _⟩ := isNode_open hn
    exact hc
  intro fuel
  induction fuel using Nat.strongRecOn with
  | _ fuel ih =>
    intro cs d ps x h hx hw
    cases fuel with
    | zero => simp [DataW.trod] at h
    | succ fuel =>
      obtain ⟨f4, f5, c4, c5, d4, p4, d5, p5, u4, u5, e4, e5, hl, h4, h5, w4, w5⟩ := trod_node2 hn h
      obtain ⟨v4, v5, rfl, i4, i5⟩ := NR_iff.1 hx
      simp only [List.getElem?_cons_succ, List.getElem?_cons_zero, Option.some.injEq] at e4 e5
      subst e4; subst e5
      have hp : x.p.length ≤ b := by
        obtain ⟨A, cap, ea, hcap, hA⟩ := i5
        simp only [List.cons.injEq, and_true] at ea
        subst ea
        cases hx0 : x.p with
        | nil => simp
        | cons y r =>
          obtain ⟨a, rfl, _⟩ := hA (by rw [hx0]; simp)
          rw [← hx0]
          cases fuel with
          | zero => simp [DataW.trod] at h5
          | succ fuel =>
            unfold DataW.trod at h5
            simp only [u5] at h5
            split at h5
            · simp only [Option.bind_eq_some_iff] at h5
              obtain ⟨elems, hel, hd⟩ := h5
              simp only [Option.map_eq_some_iff] at hd
              obtain ⟨rest, hr, hxx⟩ := hd
              simp only [Prod.mk.injEq] at hxx
              obtain ⟨rfl, -⟩ := hxx
              have h1 := (mapM_range hel).1
              have h2 := bulk_len (elems.map (·.1))
              rw [List.length_map, h1] at h2
              simp only [Go.Proofs.YtfogafinohfpfaaGreatDoor.Rows.uptoBulk] at w5
              omega
            · cases h5
      have hls : ∀ i (hi : i < x.l.length), NK b x.l[i] := by
        intro i hi
        obtain ⟨A, cap, ea, hcap, hA⟩ := i4
        simp only [List.cons.injEq, and_true] at ea
        subst ea
        obtain ⟨a, rfl, him, hs, hcell⟩ := hA (by intro e; rw [e] at hi; simp at hi)
        obtain ⟨us, hus, hcu⟩ := hcell i hi
        cases fuel with
        | zero => simp [DataW.trod] at h4
        | succ fuel =>
          unfold DataW.trod at h4
          simp only [u4] at h4
          split at h4
          · simp only [Option.bind_eq_some_iff] at h4
            obtain ⟨elems, hel, hd⟩ := h4
            simp only [Option.map_eq_some_iff] at hd
            obtain ⟨rest, hr, hxx⟩ := hd
            simp only [Prod.mk.injEq] at hxx
            obtain ⟨rfl, -⟩ := hxx
            obtain ⟨h1, h2⟩ := mapM_range hel
            have h3 := h2 i (by omega)
            simp only [Option.bind_eq_some_iff] at h3
            obtain ⟨us', hus', htr⟩ := h3
            obtain ⟨g1, g2⟩ := cells_read hus'
            rw [h6] at g1 g2
            have hlen : us.length = 6 := by
              obtain ⟨_, _, rfl, _⟩ := NR_iff.1 hus
              rfl
            have he : us' = us := by
              apply List.ext_getElem?
              intro j
              by_cases hj : j < 6
              · have q1 := g2 j us'[j] (by simp)
                have q2 := hcu j us[j] (by simp)
                rw [addr_add2 hs] at q1
                have : csz .node = 6 := rfl
                rw [this, q1] at q2
                rw [List.getElem?_eq_getElem (by omega), List.getElem?_eq_getElem (by omega)]
                exact q2
              · rw [List.getElem?_eq_none (by omega), List.getElem?_eq_none (by omega)]
            subst he
            have hb := bulk_part (List.mem_map.2 ⟨elems[i], List.getElem_mem _, rfl⟩ : elems[i].1 ∈ elems.map (·.1))
            simp only [Go.Proofs.YtfogafinohfpfaaGreatDoor.Rows.uptoBulk] at w4
            exact ih fuel (by omega) us' elems[i].1 elems[i].2 _ htr hus (by omega)
          · cases h4
      obtain ⟨k, s, n, a, l, p⟩ := x
      exact .mk k s n a l p hls hp

/-- An argument that is a tree: no node of it bears too many names. -/
theorem node_small {t : TypeId} (hn : isNode P t = true) {Im : Nat → Prop} {ρ : Nat → Loc} {x : Node} {v : Value} {d : DataW H} {ps : List MemPlace} {ds : List (DataW H)}
    (hv : VR w Im ρ (.agg (Go.Proofs.YtfogafinohfpfaaGreatDoorV.enc .node x)) v) (h : DataW.Trod enc P w 0 spare held t v d ps) (hk : Go.Proofs.YtfogafinohfpfaaGreatDoor.Rows.uptoSmall H ds = true) (hd : d ∈ ds) : NK 1048576 x := by
  obtain ⟨fuel, hf⟩ := h
  obtain ⟨cs, rfl, hcs⟩ := hv
  have h1 : Go.Proofs.YtfogafinohfpfaaGreatDoor.Rows.uptoBulkAll ds ≤ 1048576 := of_decide_eq_true hk
  have h2 := bulk_part hd
  exact node_bulk hn fuel cs.toList d ps x hf (enc_VRs.1 hcs) (by omega)
end
end Go.Proofs.YtfogafinohfpfaaGreatDoorV
