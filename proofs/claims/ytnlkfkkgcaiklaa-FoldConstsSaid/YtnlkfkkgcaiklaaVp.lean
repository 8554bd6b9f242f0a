/- Regions in whatever order, to the end. -/
import Derived.Test.YtnlkfkkgcaiklaaVo
namespace Go.Proofs.YtnlkfkkgcaiklaaV
open Go.RowKit
set_option linter.unusedVariables false
set_option linter.unusedSimpArgs false

theorem fold_or (acc : Array Nat) : ∀ (l : List Edge) (s j : Nat), (l.foldl (fun s e => if Region.binds .any e then s ||| 2 ^ e.on ||| acc.getD e.on 0 else s) s).testBit j = true →
    s.testBit j = true ∨ ∃ e ∈ l, Region.binds .any e = true ∧ (e.on = j ∨ (acc.getD e.on 0).testBit j = true)
  | [], s, j, h => .inl h
  | e :: l, s, j, h => by
    simp only [List.foldl_cons] at h
    rcases fold_or acc l _ j h with h | ⟨e', he, h⟩
    · split at h
      · rename_i hb
        simp only [Nat.testBit_or, Bool.or_eq_true, Nat.testBit_two_pow, decide_eq_true_eq] at h
        rcases h with (h | h) | h
        · exact .inl h
        · exact .inr ⟨e, by simp, hb, .inl h⟩
        · exact .inr ⟨e, by simp, hb, .inr h⟩
      · exact .inl h
    · exact .inr ⟨e', by simp [he], h⟩

theorem before_list : ∀ (l done : List Oper) (acc : Array Nat), acc.size = done.length →
    (∀ i j, (acc.getD i 0).testBit j = true → ∃ o, done[i]? = some o ∧ ∃ e ∈ o.after.toList, Region.binds .any e = true ∧ (e.on = j ∨ (acc.getD e.on 0).testBit j = true)) →
    ∀ i j, ((l.foldl (fun acc (o : Oper) => acc.push (o.after.foldl (fun s e => if Region.binds .any e then s ||| 2 ^ e.on ||| acc.getD e.on 0 else s) 0)) acc).getD i 0).testBit j = true →
      ∃ o, (done ++ l)[i]? = some o ∧ ∃ e ∈ o.after.toList, Region.binds .any e = true ∧ (e.on = j ∨ ((l.foldl (fun acc (o : Oper) => acc.push (o.after.foldl (fun s e => if Region.binds .any e then s ||| 2 ^ e.on ||| acc.getD e.on 0 else s) 0)) acc).getD e.on 0).testBit j = true)
  | [], done, acc, hs, h => by simpa using h
  | o :: l, done, acc, hs, h => by
    have e : done ++ o :: l = (done ++ [o]) ++ l := by simp
    rw [e]
    simp only [List.foldl_cons]
    refine before_list l (done ++ [o]) _ (by simp [hs]) ?_
    intro i j hj
    have keep : ∀ k, (acc.getD k 0).testBit j = true → ((acc.push (o.after.foldl (fun s e => if Region.binds .any e then s ||| 2 ^ e.on ||| acc.getD e.on 0 else s) 0)).getD k 0).testBit j = true := by
      intro k hk
      rcases Nat.lt_or_ge k acc.size with hlt | hge
      · have : (acc.push (o.after.foldl (fun s e => if Region.binds .any e then s ||| 2 ^ e.on ||| acc.getD e.on 0 else s) 0)).getD k 0 = acc.getD k 0 := by
          simp only [Array.getD_eq_getD_getElem?, Array.getElem?_push]
          rw [if_neg (by omega)]
        rw [this]; exact hk
      · simp [Array.getD_eq_getD_getElem?, Array.getElem?_eq_none hge] at hk
    rcases Nat.lt_trichotomy i acc.size with hlt | heq | hgt
    · have hj' : (acc.getD i 0).testBit j = true := by
        have : (acc.push (o.after.foldl (fun s e => if Region.binds .any e then s ||| 2 ^ e.on ||| acc.getD e.on 0 else s) 0)).getD i 0 = acc.getD i 0 := by
          simp only [Array.getD_eq_getD_getElem?, Array.getElem?_push]
          rw [if_neg (by omega)]
        rw [this] at hj; exact hj
      obtain ⟨o', h1, e', h2, h3, h4⟩ := h i j hj'
      exact ⟨o', by rw [List.getElem?_append_left (by rw [← hs]; exact hlt)]; exact h1, e', h2, h3, h4.imp id (keep _)⟩
    · subst heq
      have hj' : (o.after.foldl (fun s e => if Region.binds .any e then s ||| 2 ^ e.on ||| acc.getD e.on 0 else s) 0).testBit j = true := by
        simpa [Array.getD_eq_getD_getElem?, Array.getElem?_push] using hj
      rw [← Array.foldl_toList] at hj'
      rcases fold_or acc _ 0 j hj' with h0 | ⟨e', h2, h3, h4⟩
      · simp at h0
      · exact ⟨o, by rw [hs]; simp, e', h2, h3, h4.imp id (keep _)⟩
    · rw [Array.getD_eq_getD_getElem?, Array.getElem?_eq_none (by simp; omega)] at hj
      simp at hj

theorem before_spec (ops : Array Oper) (i j : Nat) (h : ((Region.before ops).getD i 0).testBit j = true) :
    ∃ o, ops[i]? = some o ∧ ∃ e ∈ o.after.toList, Region.binds .any e = true ∧ (e.on = j ∨ ((Region.before ops).getD e.on 0).testBit j = true) := by
  have := before_list ops.toList [] #[] rfl (fun i j h => by simp at h) i j
  unfold Region.before at h ⊢
  simp only [← Array.foldl_toList] at h ⊢ this
  obtain ⟨o, h1, h2⟩ := this h
  exact ⟨o, by simpa using h1, h2⟩

theorem RS.look_eq {w Im ρ} {m m2 : Rows} (h : RS w Im ρ m) (he : ∀ r, look m2 r = look m r) : RS w Im ρ m2 :=
  ⟨fun r x hx => h.row r x (by rw [← he]; exact hx), fun r hx => h.gone r (by rw [← he]; exact hx), h.inj, h.noim, h.imlt, h.gd⟩

theorem SR.look_eq {c Im ρ t m a w} {m2 : Rows} (h : SR c Im ρ t m a w) (he : ∀ r, look m2 r = look m r) : SR c Im ρ t m2 a w :=
  ⟨h.rs.look_eq he, h.sz, h.tm, h.df, h.kp, h.im0, h.imn, h.own, h.root⟩

theorem Tr_idx {cx ops nx es t m t' m'} (h : Tr cx ops nx es t m t' m') : ∀ p ∈ es, p.1 < ops.size := by
  induction h with
  | nil => intro p hp; cases hp
  | skip ho hg h ih =>
    intro p hp
    rcases List.mem_cons.1 hp with rfl | hp
    · exact (Array.getElem?_eq_some_iff.1 ho).1
    · exact ih p hp
  | op ho hg hd h ih =>
    intro p hp
    rcases List.mem_cons.1 hp with rfl | hp
    · exact (Array.getElem?_eq_some_iff.1 ho).1
    · exact ih p hp

theorem mem_ready {ops : Array Oper} {listed : Array Bool} {i : Nat} (h : i ∈ Region.ready .any ops listed) : i < ops.size ∧ listed.getD i true = false ∧ ∀ o, ops[i]? = some o → ∀ e ∈ o.after.toList, Region.binds .any e = true → listed.getD e.on false = true := by
  simp only [Region.ready, List.mem_filter, List.mem_range, Bool.and_eq_true, Bool.not_eq_true'] at h
  refine ⟨h.1, h.2.1, fun o ho e he hb => ?_⟩
  have h2 := h.2.2
  rw [ho] at h2
  simp only [Option.map_some, Option.getD_some] at h2
  rw [← Array.all_toList] at h2
  have := List.all_eq_true.1 h2 e he
  simpa [hb] using this

theorem wpAny_tr {cx : Cx} (hD : DOK cx) {rd : Option Nat} {c : Cst} {ops : Array Oper} {nx : Nat} (hmm : c.mm ≤ nx) (hok : apartOK ops (Region.before ops) = true) {Q : Exit → Act → World → Prop} {t' : List AV} {m' : Rows}
    (hk : ∀ Im' ρ' a' w', SR c Im' ρ' t' m' a' w' → (∀ q, nx + 64 * ops.size ≤ q → ρ' q = .unborn) → Q .normal a' w') :
    ∀ (n : Nat) (es : List (Nat × Option Dl)) (t : List AV) (m : Rows) (m1 : Rows) (listed : Array Bool) (Im : Nat → Prop) (ρ : Nat → Loc) (a : Act) (w : World), es.length = n →
      Tr cx ops nx es t m t' m1 → (∀ r, look m1 r = look m' r) → es.Pairwise (indep (Region.before ops)) → listed.size = ops.size → (∀ i, i < ops.size → (listed.getD i true = false ↔ i ∈ es.map (·.1))) →
      (∀ i, i < ops.size → listed.getD i true = true → ∀ j, ((Region.before ops).getD i 0).testBit j = true → listed.getD j false = true) →
      SR c Im ρ t m a w → (∀ i ∈ es.map (·.1), ∀ q, nx + 64 * i ≤ q → q < nx + 64 * i + 64 → ρ q = .unborn) → (∀ q, nx + 64 * ops.size ≤ q → ρ q = .unborn) →
      wpAnyIn (FW rd) 0 cx.P .any ops Q n listed a w := by
  have hafter : ∀ (i : Nat) (o : Oper), ops[i]? = some o → ∀ e ∈ o.after.toList, Region.binds .any e = true → e.on < i := by
    intro i o ho e he hbi
    simp only [apartOK, Bool.and_eq_true, List.all_eq_true, List.mem_range] at hok
    have hi := (Array.getElem?_eq_some_iff.1 ho).1
    have := hok.1 i hi
    have hg : ops.getD i default = o := by rw [Array.getD_eq_getD_getElem?, ho]; rfl
    rw [hg, ← Array.all_toList] at this
    simpa [hbi] using List.all_eq_true.1 this e he
  have hapart : ∀ (i j : Nat) (oj oi : Oper), j < i → ((Region.before ops).getD i 0).testBit j = false → ops[j]? = some oj → ops[i]? = some oi → oj.apart ops oi = true := by
    intro i j oj oi hji hb hoj hoi
    simp only [apartOK, Bool.and_eq_true, List.all_eq_true, List.mem_range, Bool.or_eq_true] at hok
    have hi := (Array.getElem?_eq_some_iff.1 hoi).1
    have := hok.2 i hi j hji
    rw [hb] at this
    have g1 : ops.getD i default = oi := by rw [Array.getD_eq_getD_getElem?, hoi]; rfl
    have g2 : ops.getD j default = oj := by rw [Array.getD_eq_getD_getElem?, hoj]; rfl
    rw [g1, g2] at this
    simpa using this
  intro n
  induction n with
  | zero =>
    intro es t m m1 listed Im ρ a w hn htr hm1 hpw hls hl hcl hs hf1 hf2
    have hes : es = [] := List.eq_nil_of_length_eq_zero hn
    subst hes
    cases htr
    refine ⟨?_, hk Im ρ a w (hs.look_eq (fun r => (hm1 r).symm)) hf2⟩
    simp only [Region.ready, List.filter_eq_nil_iff, List.mem_range]
    intro i hi hh
    simp only [Bool.and_eq_true, Bool.not_eq_true'] at hh
    have := (hl i hi).1 hh.1
    cases this
  | succ n ih =>
    intro es t m m1 listed Im ρ a w hn htr hm1 hpw hls hl hcl hs hf1 hf2
    refine ⟨fun hr => ?_, fun i hi => ?_⟩
    · -- the first that is left is ready
      exfalso
      cases es with
      | nil => cases hn
      | cons p es =>
        obtain ⟨i, ei⟩ := p
        have hilt := Tr_idx htr (i, ei) (by simp)
        have hnl := (hl i hilt).2 (by simp)
        obtain ⟨o, ho⟩ : ∃ o, ops[i]? = some o := ⟨_, Array.getElem?_eq_getElem hilt⟩
        have hmem : i ∈ Region.ready .any ops listed := by
          simp only [Region.ready, List.mem_filter, List.mem_range, Bool.and_eq_true, Bool.not_eq_true']
          refine ⟨hilt, hnl, ?_⟩
          rw [ho]
          simp only [Option.map_some, Option.getD_some]
          rw [← Array.all_toList, List.all_eq_true]
          intro e he
          cases hbi : Region.binds .any e with
          | false => rfl
          | true =>
          have hlt := hafter i o ho e he hbi
          have : listed.getD e.on true ≠ false := by
            intro hh
            have := (hl e.on (by omega)).1 hh
            simp only [List.map_cons, List.mem_cons, List.mem_map] at this
            rcases this with h | ⟨p, hp, h⟩
            · omega
            · have := (List.pairwise_cons.1 hpw).1 p hp
              have := this.1
              simp only at this
              omega
          have h2 : listed.getD e.on false = true := by
            have hsz : e.on < listed.size := by rw [hls]; omega
            simp only [Array.getD_eq_getD_getElem?, Array.getElem?_eq_getElem hsz, Option.getD_some] at this ⊢
            simpa using this
          simp [h2]
        rw [hr] at hmem
        cases hmem
    · obtain ⟨hilt, hnl, hrd⟩ := mem_ready hi
      have hin := (hl i hilt).1 hnl
      obtain ⟨⟨i', ei⟩, hmem, rfl⟩ := List.mem_map.1 hin
      obtain ⟨A, B, rfl⟩ := List.append_of_mem hmem
      simp only at hilt hnl hrd hi
      obtain ⟨o, ho⟩ : ∃ o, ops[i']? = some o := ⟨_, Array.getElem?_eq_getElem hilt⟩
      have hA : ∀ p ∈ A, indep (Region.before ops) p (i', ei) ∧ ((Region.before ops).getD i' 0).testBit p.1 = false := by
        intro p hp
        refine ⟨(List.pairwise_append.1 hpw).2.2 p hp _ (by simp), ?_⟩
        cases hb : ((Region.before ops).getD i' 0).testBit p.1 with
        | false => rfl
        | true =>
          exfalso
          have hpl := Tr_idx htr p (by simp [hp])
          have hpn := (hl p.1 hpl).2 (by simp only [List.map_append, List.mem_append, List.mem_map]; exact .inl ⟨p, hp, rfl⟩)
          obtain ⟨o', ho', e, he, hbi, hor⟩ := before_spec ops i' p.1 hb
          rw [ho] at ho'; cases ho'
          have hel := hrd o ho e he hbi
          have hes : listed.getD p.1 false = true := by
            rcases hor with h | h
            · rw [← h]; exact hel
            · have hlt := hafter i' o ho e he hbi
              have hsz : e.on < listed.size := by rw [hls]; omega
              refine hcl e.on (by omega) ?_ p.1 h
              simp only [Array.getD_eq_getD_getElem?, Array.getElem?_eq_getElem hsz, Option.getD_some] at hel ⊢
              exact hel
          have hsz : p.1 < listed.size := by rw [hls]; exact hpl
          simp only [Array.getD_eq_getD_getElem?, Array.getElem?_eq_getElem hsz, Option.getD_some] at hes hpn
          rw [hes] at hpn; cases hpn
      obtain ⟨m2, htr2, hm2⟩ := Tr_front (bf := Region.before ops) (fun j oj oi hji hb e1 e2 => hapart i' j oj oi hji hb e1 e2) htr hA
      have hpw' : (A ++ B).Pairwise (indep (Region.before ops)) := by
        refine hpw.sublist ?_
        exact List.Sublist.append (List.Sublist.refl _) (List.sublist_cons_self _ _)
      have hlen' : (A ++ B).length = n := by simp at hn ⊢; omega
      have hni : ∀ p ∈ A ++ B, p.1 ≠ i' := by
        intro p hp
        rcases List.mem_append.1 hp with hp | hp
        · have := (hA p hp).1.1; simp only at this; omega
        · have h1 := (List.pairwise_append.1 hpw).2.1
          have := (List.pairwise_cons.1 h1).1 p hp
          have := this.1; simp only at this; omega
      have hls' : (listed.setIfInBounds i' true).size = ops.size := by simp [hls]
      have hgd : ∀ k b, k < ops.size → (listed.setIfInBounds i' true).getD k b = if k = i' then true else listed.getD k b := by
        intro k b hk
        simp only [Array.getD_eq_getD_getElem?, Array.getElem?_setIfInBounds]
        by_cases e : i' = k
        · subst e; simp [hls, hilt]
        · rw [if_neg e, if_neg (Ne.symm e)]
      have hl' : ∀ k, k < ops.size → ((listed.setIfInBounds i' true).getD k true = false ↔ k ∈ (A ++ B).map (·.1)) := by
        intro k hk
        rw [hgd k true hk]
        by_cases e : k = i'
        · subst e
          simp only [if_true, Bool.true_eq_false, List.mem_map, false_iff, not_exists, not_and]
          exact fun p hp e => hni p hp e
        · rw [if_neg e, hl k hk]
          simp only [List.map_append, List.map_cons, List.mem_append, List.mem_cons]
          constructor
          · rintro (h | h | h)
            · exact .inl h
            · exact absurd h e
            · exact .inr h
          · rintro (h | h)
            · exact .inl h
            · exact .inr (.inr h)
      have hcl' : ∀ k, k < ops.size → (listed.setIfInBounds i' true).getD k true = true → ∀ j, ((Region.before ops).getD k 0).testBit j = true → (listed.setIfInBounds i' true).getD j false = true := by
        intro k hk hkt j hj
        have hmono : ∀ j, listed.getD j false = true → (listed.setIfInBounds i' true).getD j false = true := by
          intro j hj
          rcases Nat.lt_or_ge j ops.size with h | h
          · rw [hgd j false h]; split
            · rfl
            · exact hj
          · rw [Array.getD_eq_getD_getElem?, Array.getElem?_eq_none (by rw [hls]; exact h)] at hj
            cases hj
        refine hmono j ?_
        rw [hgd k true hk] at hkt
        by_cases e : k = i'
        · subst e
          obtain ⟨o', ho', e, he, hbi, hor⟩ := before_spec ops k j hj
          rw [ho] at ho'; cases ho'
          have hel := hrd o ho e he hbi
          rcases hor with h | h
          · rw [← h]; exact hel
          · have hlt := hafter k o ho e he hbi
            have hsz : e.on < listed.size := by rw [hls]; omega
            refine hcl e.on (by omega) ?_ j h
            simp only [Array.getD_eq_getD_getElem?, Array.getElem?_eq_getElem hsz, Option.getD_some] at hel ⊢
            exact hel
        · rw [if_neg e] at hkt
          exact hcl k hk hkt j hj
      unfold wpOpIn
      rw [ho]
      simp only
      cases htr2 with
      | skip ho2 hg h =>
        rw [ho] at ho2; cases ho2
        rw [guard_spec hs hg, if_neg (by simp)]
        refine ⟨fun _ _ => trivial, ?_⟩
        refine ih _ _ _ _ _ Im ρ _ w hlen' h (fun r => (hm2 r).trans (hm1 r)) hpw' hls' hl' hcl' (hs.skip o.dst) (fun k hk => ?_) hf2
        refine hf1 k ?_
        simp only [List.map_append, List.map_cons, List.mem_append, List.mem_cons] at hk ⊢
        exact hk.imp id .inr
      | op ho2 hg hd h =>
        rw [ho] at ho2; cases ho2
        rw [guard_spec hs hg, if_pos rfl]
        have hfi := hf1 i' hin
        refine op_sound hD hd hs.rs hs.tm hfi (fun v w' Im' ρ' hE hv => ?_)
        refine ih _ _ _ _ _ Im' ρ' _ w' hlen' h (fun r => (hm2 r).trans (hm1 r)) hpw' hls' hl' hcl' (hs.step hE (by omega) o.dst hv) (fun k hk q h1 h2 => ?_) (fun q hq => hE.born q (hf2 q hq) (by omega))
        obtain ⟨p, hp, rfl⟩ := List.mem_map.1 hk
        have hne := hni p hp
        have hklt := Tr_idx h p hp
        refine hE.born q (hf1 p.1 ?_ q h1 h2) (by omega)
        simp only [List.map_append, List.map_cons, List.mem_append, List.mem_cons] at hk ⊢
        exact hk.imp id .inr
end Go.Proofs.YtnlkfkkgcaiklaaV
