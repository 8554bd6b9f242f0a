/- How many names a tree's nodes may bear, by the row's reach. -/
import Derived.Test.YtfogafinohfpfaaGreatDoorWc
namespace Go.Proofs.YtfogafinohfpfaaGreatDoorV
open Go.RowKit
set_option linter.unusedVariables false

/-- Each node's names are not too many. -/
inductive NB : Node → Prop
  | mk (k : Int) (s : ByteArray) (n a : Int) (l : List Node) (p : List ByteArray) (hl : ∀ i (h : i < l.length), NB l[i]) (hp : p.length * 16 ≤ reachBytes) : NB (.mk k s n a l p)

/-- The type of a tree's names. -/
def strOf (P : Program) (t : TypeId) : TypeId := match P.underlying t with
  | some (.struct fs) => match fs.toList with
    | [_, _, _, _, _, f] => match P.underlying f.type with
      | some (.slice e) => e
      | _ => 0
    | _ => 0
  | _ => 0

theorem weightsAll_mem {H : Type} {P : Program} {e : TypeId} : ∀ {l : List (DataW H)} {d : DataW H}, d ∈ l → ∀ n ∈ d.weights P e, n ∈ DataW.weightsAll P e l
  | [], _, h, _, _ => by cases h
  | x :: l, d, h, n, hn => by
    simp only [DataW.weightsAll, List.mem_append]
    rcases List.mem_cons.1 h with rfl | h
    · exact .inl hn
    · exact .inr (weightsAll_mem h n hn)

section
variable {H : Type} {enc : TypeId × Value → H} {P : Program} {w : World} {held : Bool} {spare : Nat → Bool}

theorem trod_node {t : TypeId} (hn : isNode P t = true) {fuel : Nat} {cs : List Value} {d : DataW H} {ps : List MemPlace} (h : DataW.trod enc P w 0 spare held (fuel + 1) t cs = some (d, ps)) :
    ∃ f4 f5 c4 c5 d4 p4 d5 p5, P.underlying f4 = some (.slice t) ∧ P.underlying f5 = some (.slice (strOf P t)) ∧ cs[4]? = some c4 ∧ cs[5]? = some c5 ∧ cs.length = 6 ∧
      DataW.trod enc P w 0 spare held fuel f4 [c4] = some (d4, p4) ∧ DataW.trod enc P w 0 spare held fuel f5 [c5] = some (d5, p5) ∧ (∀ n ∈ d4.weights P f4, n ∈ d.weights P t) ∧ (∀ n ∈ d5.weights P f5, n ∈ d.weights P t) := by
  obtain ⟨fs, f0, f1, f2, f3, f4, f5, e', hu, hfs, u0, u1, u2, u3, u4, u5, ue, hc, hce, ⟨o0, o1, o2, o3, o4, o5⟩, z0, z1, z2, z3, z4, z5⟩ := isNode_open hn
  have hso : strOf P t = e' := by unfold strOf; simp only [hu, hfs, u5]
  unfold DataW.trod at h
  simp only [hu] at h
  split at h
  · rename_i hl
    rw [hc] at hl
    obtain ⟨c0, c1, c2, c3, c4, c5, rfl⟩ : ∃ c0 c1 c2 c3 c4 c5, cs = [c0, c1, c2, c3, c4, c5] := by
      match cs, hl with
      | [c0, c1, c2, c3, c4, c5], _ => exact ⟨_, _, _, _, _, _, rfl⟩
    simp only [Option.map_eq_some_iff] at h
    obtain ⟨xs, hm, hx⟩ := h
    simp only [Prod.mk.injEq] at hx
    obtain ⟨rfl, -⟩ := hx
    obtain ⟨b4, hb4, h4⟩ := mapM_get hm (i := 4) (a := f4) (by rw [hfs]; rfl)
    obtain ⟨b5, hb5, h5⟩ := mapM_get hm (i := 5) (a := f5) (by rw [hfs]; rfl)
    rw [o4, z4] at h4
    rw [o5, z5] at h5
    refine ⟨f4.type, f5.type, c4, c5, b4.1, b4.2, b5.1, b5.2, u4, by rw [hso]; exact u5, rfl, rfl, rfl, h4, h5, fun n hn' => ?_, fun n hn' => ?_⟩
    · have m1 : n ∈ DataW.weightsEach P (fs.toList.map (·.type)) (xs.map (·.1)) := DataW.weights_mem_each (j := 4) (by rw [hfs]; rfl) (by rw [List.getElem?_map, hb4]; rfl) n hn'
      simpa only [DataW.weights, hu] using m1
    · have m1 : n ∈ DataW.weightsEach P (fs.toList.map (·.type)) (xs.map (·.1)) := DataW.weights_mem_each (j := 5) (by rw [hfs]; rfl) (by rw [List.getElem?_map, hb5]; rfl) n hn'
      simpa only [DataW.weights, hu] using m1
  · cases h

theorem node_wt {t : TypeId} (hn : isNode P t = true) (hb : P.bytesOf (strOf P t) = 16) {Im : Nat → Prop} : ∀ (fuel : Nat) (cs : List Value) (d : DataW H) (ps : List MemPlace) (x : Node), DataW.trod enc P w 0 spare held fuel t cs = some (d, ps) →
    IR w Im .node x cs → (∀ n ∈ d.weights P t, n ≤ reachBytes) → NB x := by
  have h6 : P.cellsOf t = 6 := by
    obtain ⟨fs, f0, f1, f2, f3, f4, f5, e', hu, hfs, u0, u1, u2, u3, u4, u5, ue, hc, _⟩ := isNode_open hn
    exact hc
  intro fuel
  induction fuel using Nat.strongRecOn with
  | _ fuel ih =>
    intro cs d ps x h hx hw
    cases fuel with
    | zero => simp [DataW.trod] at h
    | succ fuel =>
      obtain ⟨f4, f5, c4, c5, d4, p4, d5, p5, u4, u5, e4, e5, hl, h4, h5, w4, w5⟩ := trod_node hn h
      obtain ⟨v4, v5, rfl, i4, i5⟩ := NR_iff.1 hx
      simp only [List.getElem?_cons_succ, List.getElem?_cons_zero, Option.some.injEq] at e4 e5
      subst e4; subst e5
      have hp : x.p.length * 16 ≤ reachBytes := by
        have := trod_slice_len (Im := Im) (ρ := fun _ => .gone) (ty := .str) (xs := x.p) (v := v5) u5 i5 h5 (fun n hn' => hw n (w5 n hn'))
        rwa [hb] at this
      have hls : ∀ i (hi : i < x.l.length), NB x.l[i] := by
        intro i hi
        obtain ⟨A, cap, ea, hcap, hA⟩ := i4
        simp only [List.cons.injEq, and_true] at ea
        subst ea
        obtain ⟨a, rfl, him, hs, hcell⟩ := hA (by intro e; rw [e] at hi; simp at hi)
        obtain ⟨us, hus, hcu⟩ := hcell i hi
        cases fuel with
        | zero => simp [DataW.trod] at h4
        | succ fuel =>
          unfold DataW.trod at h4
          simp only [u4] at h4
          split at h4
          · simp only [Option.bind_eq_some_iff] at h4
            obtain ⟨elems, hel, hd⟩ := h4
            simp only [Option.map_eq_some_iff] at hd
            obtain ⟨rest, hr, hxx⟩ := hd
            simp only [Prod.mk.injEq] at hxx
            obtain ⟨rfl, -⟩ := hxx
            obtain ⟨h1, h2⟩ := mapM_range hel
            have h3 := h2 i (by omega)
            simp only [Option.bind_eq_some_iff] at h3
            obtain ⟨us', hus', htr⟩ := h3
            obtain ⟨g1, g2⟩ := cells_read hus'
            rw [h6] at g1 g2
            have hlen : us.length = 6 := by
              obtain ⟨_, _, rfl, _⟩ := NR_iff.1 hus
              rfl
            have he : us' = us := by
              apply List.ext_getElem?
              intro j
              by_cases hj : j < 6
              · have q1 := g2 j us'[j] (by simp)
                have q2 := hcu j us[j] (by simp)
                rw [addr_add2 hs] at q1
                have : csz .node = 6 := rfl
                rw [this, q1] at q2
                rw [List.getElem?_eq_getElem (by omega), List.getElem?_eq_getElem (by omega)]
                exact q2
              · rw [List.getElem?_eq_none (by omega), List.getElem?_eq_none (by omega)]
            subst he
            refine ih fuel (by omega) us' elems[i].1 elems[i].2 _ htr hus (fun n hn' => hw n (w4 n ?_))
            simp only [DataW.weights, u4, List.mem_cons, List.mem_append]
            exact .inr (.inl (weightsAll_mem (List.mem_map.2 ⟨elems[i], List.getElem_mem _, rfl⟩) n hn'))
          · cases h4
      obtain ⟨k, s, n, a, l, p⟩ := x
      exact .mk k s n a l p hls hp

/-- An argument that is a tree: no node of it bears too many names. -/
theorem node_len {t : TypeId} (hn : isNode P t = true) (hb : P.bytesOf (strOf P t) = 16) {Im : Nat → Prop} {ρ : Nat → Loc} {x : Node} {v : Value} {d : DataW H} {ps : List MemPlace} {ts : List TypeId} {ds : List (DataW H)} {j : Nat}
    (hv : VR w Im ρ (.agg (Go.Proofs.YtfogafinohfpfaaGreatDoorV.enc .node x)) v) (h : DataW.Trod enc P w 0 spare held t v d ps) (hsz : (DataW.weightsEach P ts ds).all (· ≤ reachBytes) = true) (ht : ts[j]? = some t) (hd : ds[j]? = some d) : NB x := by
  obtain ⟨fuel, hf⟩ := h
  obtain ⟨cs, rfl, hcs⟩ := hv
  refine node_wt hn hb fuel cs.toList d ps x hf (enc_VRs.1 hcs) (fun n hn' => ?_)
  have := List.all_eq_true.1 hsz _ (DataW.weights_mem_each ht hd n hn')
  simpa using this
end
end Go.Proofs.YtfogafinohfpfaaGreatDoorV
