/- Regions in whatever order, to the end. -/
import Derived.Test.YtfogafinohfpfaaGreatDoorVo
namespace Go.Proofs.YtfogafinohfpfaaGreatDoorV
open Go.RowKit
set_option linter.unusedVariables false
set_option linter.unusedSimpArgs false

theorem fold_or (acc : Array Nat) : ∀ (l : List Edge) (s j : Nat), (l.foldl (fun s e => if Region.binds .any e then s ||| 2 ^ e.on ||| acc.getD e.on 0 else s) s).testBit j = true →
    s.testBit j = true ∨ ∃ e ∈ l, Region.binds .any e = true ∧ (e.on = j ∨ (acc.getD e.on 0).testBit j = true)
  | [], s, j, h => .inl h
  | e :: l, s, j, h => by
    simp only [List.foldl_cons] at h
    rcases fold_or acc l _ j h with h | ⟨e', he, h⟩
    · split at h
      · rename_i hb
        simp only [Nat.testBit_or, Bool.or_eq_true, Nat.testBit_two_pow, decide_eq_true_eq] at h
        rcases h with (h | h) | h
        · exact .inl h
        · exact .inr ⟨e, by simp, hb, .inl h⟩
        · exact .inr ⟨e, by simp, hb, .inr h⟩
      · exact .inl h
    · exact .inr ⟨e', by simp [he], h⟩

theorem before_list : ∀ (l done : List Oper) (acc : Array Nat), acc.size = done.length →
    (∀ i j, (acc.getD i 0).testBit j = true → ∃ o, done[i]? = some o ∧ ∃ e ∈ o.after.toList, Region.binds .any e = true ∧ (e.on = j ∨ (acc.getD e.on 0).testBit j = true)) →
    ∀ i j, ((l.foldl (fun acc (o : Oper) => acc.push (o.after.foldl (fun s e => if Region.binds .any e then s ||| 2 ^ e.on ||| acc.getD e.on 0 else s) 0)) acc).getD i 0).testBit j = true →
      ∃ o, (done ++ l)[i]? = some o ∧ ∃ e ∈ o.after.toList, Region.binds .any e = true ∧ (e.on = j ∨ ((l.foldl (fun acc (o : Oper) => acc.push (o.after.foldl (fun s e => if Region.binds .any e then s ||| 2 ^ e.on ||| acc.getD e.on 0 else s) 0)) acc).getD e.on 0).testBit j = true)
  | [], done, acc, hs, h => by simpa using h
  | o :: l, done, acc, hs, h => by
    have e : done ++ o :: l = (done ++ [o]) ++ l := by simp
    rw [e]
    simp only [List.foldl_cons]
    refine before_list l (done ++ [o]) _ (by simp [hs]) ?_
    intro i j hj
    have keep : ∀ k, (acc.getD k 0).testBit j = true → ((acc.push (o.after.foldl (fun s e => if Region.binds .any e then s ||| 2 ^ e.on ||| acc.getD e.on 0 else s) 0)).getD k 0).testBit j = true := by
      intro k hk
      rcases Nat.lt_or_ge k acc.size with hlt | hge
      · have : (acc.push (o.after.foldl (fun s e => if Region.binds .any e then s ||| 2 ^ e.on ||| acc.getD e.on 0 else s) 0)).getD k 0 = acc.getD k 0 := by
          simp only [Array.getD_eq_getD_getElem?, Array.getElem?_push]
          rw [if_neg (by omega)]
        rw [this]; exact hk
      · simp [Array.getD_eq_getD_getElem?, Array.getElem?_eq_none hge] at hk
    rcases Nat.lt_trichotomy i acc.size with hlt | heq | hgt
    · have hj' : (acc.getD i 0).testBit j = true := by
        have : (acc.push (o.after.foldl (fun s e => if Region.binds .any e then s ||| 2 ^ e.on ||| acc.getD e.on 0 else s) 0)).getD i 0 = acc.getD i 0 := by
          simp only [Array.getD_eq_getD_getElem?, Array.getElem?_push]
          rw [if_neg (by omega)]
        rw [this] at hj; exact hj
      obtain ⟨o', h1, e', h2, h3, h4⟩ := h i j hj'
      exact ⟨o', by rw [List.getElem?_append_left (by rw [← hs]; exact hlt)]; exact h1, e', h2, h3, h4.imp id (keep _)⟩
    · subst heq
      have hj' : (o.after.foldl (fun s e => if Region.binds .any e then s ||| 2 ^ e.on ||| acc.getD e.on 0 else s) 0).testBit j = true := by
        simpa [Array.getD_eq_getD_getElem?, Array.getElem?_push] using hj
      rw [← Array.foldl_toList] at hj'
      rcases fold_or acc _ 0 j hj' with h0 | ⟨e', h2, h3, h4⟩
      · simp at h0
      · exact ⟨o, by rw [hs]; simp, e', h2, h3, h4.imp id (keep _)⟩
    · rw [Array.getD_eq_getD_getElem?, Array.getElem?_eq_none (by simp; omega)] at hj
      simp at hj

theorem before_spec (ops : Array Oper) (i j : Nat) (h : ((Region.before ops).getD i 0).testBit j = true) :
    ∃ o, ops[i]? = some o ∧ ∃ e ∈ o.after.toList, Region.binds .any e = true ∧ (e.on = j ∨ ((Region.before ops).getD e.on 0).testBit j = true) := by
  have := before_list ops.toList [] #[] rfl (fun i j h => by simp at h) i j
  unfold Region.before at h ⊢
  simp only [← Array.foldl_toList] at h ⊢ this
  obtain ⟨o, h1, h2⟩ := this h
  exact ⟨o, by simpa using h1, h2⟩

theorem RS.look_eq {w Im ρ} {m m2 : Rows} (h : RS w Im ρ m) (he : ∀ r, look m2 r = look m r) : RS w Im ρ m2 :=
  ⟨fun r x hx => h.row r x (by rw [← he]; exact hx), fun r hx => h.gone r (by rw [← he]; exact hx), h.inj, h.noim, h.imlt, h.gd⟩

theorem SR.look_eq {c Im ρ t m a w} {m2 : Rows} (h : SR c Im ρ t m a w) (he : ∀ r, look m2 r = look m r) : SR c Im ρ t m2 a w :=
  ⟨h.rs.look_eq he, h.sz, h.tm, h.df, h.kp, h.im0, h.imn, h.own, h.root⟩

theorem Tr_idx {cx ops nx es t m t' m'} (h : Tr cx ops nx es t m t' m') : ∀ p ∈ es, p.1 < ops.size := by
  induction h with
  | nil => intro p hp; cases hp
  | skip ho hg h ih =>
    intro p hp
    rcases List.mem_cons.1 hp with rfl | hp
    · exact (Array.getElem?_eq_some_iff.1 ho).1
    · exact ih p hp
  | op ho hg hd h ih =>
    intro p hp
    rcases List.mem_cons.1 hp with rfl | hp
    · exact (Array.getElem?_eq_some_iff.1 ho).1
    · exact ih p hp

theorem mem_ready {ops : Array Oper} {listed : Array Bool} {i : Nat} (h : i ∈ Region.ready .any ops listed) : i < ops.size ∧ listed.getD i true = false ∧ ∀ o, ops[i]? = some o → ∀ e ∈ o.after.toList, Region.binds .any e = true → listed.getD e.on false = true := by
  simp only [Region.ready, List.mem_filter, List.mem_range, Bool.and_eq_true, Bool.not_eq_true'] at h
  refine ⟨h.1, h.2.1, fun o ho e he hb => ?_⟩
  have h2 := h.2.2
  rw [ho] at h2
  simp only [Option.map_some, Option.getD_some] at h2
  rw [← Array.all_toList] at h2
  have := List.all_eq_true.1 h2 e he
  simpa [hb] using this

theorem wpAny_tr {cx : Cx} (hD : DOK cx) {rd : Option Nat} {c : Cst} {ops : Array Oper} {nx : Nat} (hmm : c.mm ≤ nx) (hok : apartOK ops (Region.before ops) = true) {Q : Exit → Act → World → Prop} {t' : List AV} {m' : Rows}
    (hk : ∀ Im' ρ' a' w', SR c Im' ρ' t' m' a' w' → (∀ q, nx + 64 * ops.size ≤ q → ρ' q = .unborn) → Q .normal a' w') :
    ∀ (n : Nat) (es : List (Nat × Option Dl)) (t : List AV) (m : Rows) (m1 : Rows) (listed : Array Bool) (Im : Nat → Prop) (ρ : Nat → Loc) (a : Act) (w : World), es.length = n →
      Tr cx ops nx es t m t' m1 → (∀ r, look m1 r = look m' r) → es.Pairwise (indep cx.P ops (Region.before ops)) → listed.size = ops.size → (∀ i, i < ops.size → (listed.getD i true = false ↔ i ∈ es.map (·.1))) →
      (∀ i, i < ops.size → listed.getD i true = true → ∀ j, ((Region.before ops).getD i 0).testBit j = true → listed.getD j false = true) →
      SR c Im ρ t m a w → (∀ i ∈ es.map (·.1), ∀ q, nx + 64 * i ≤ q → q < nx + 64 * i + 64 → ρ q = .unborn) → (∀ q, nx + 64 * ops.size ≤ q → ρ q = .unborn) →
      wpAnyIn (FW rd) 0 cx.P .any ops Q n listed a w := by
  have hafter : ∀ (i : Nat) (o : Oper), ops[i]? = some o → ∀ e ∈ o.after.toList, Region.binds .any e = true → e.on < i := by
    intro i o ho e he hbi
    simp only [apartOK, Bool.and_eq_true, List.all_eq_true, List.mem_range] at hok
    have hi := (Array.getElem?_eq_some_iff.1 ho).1
    have := hok.1 i hi
    have hg : ops.getD i default = o := by rw [Array.getD_eq_getD_getElem?, ho]; rfl
    rw [hg, ← Array.all_toList] at this
    simpa [hbi] using List.all_eq_true.1 this e he
  have hapart : ∀ (i j : Nat) (oj oi : Oper), j < i → ((Region.before ops).getD i 0).testBit j = false → ops[j]? = some oj → ops[i]? = some oi → oj.apart ops oi = true := by
    intro i j oj oi hji hb hoj hoi
    simp only [apartOK, Bool.and_eq_true, List.all_eq_true, List.mem_range, Bool.or_eq_true] at hok
    have hi := (Array.getElem?_eq_some_iff.1 hoi).1
    have := hok.2 i hi j hji
    rw [hb] at this
    have g1 : ops.getD i default = oi := by rw [Array.getD_eq_getD_getElem?, hoi]; rfl
    have g2 : ops.getD j default = oj := by rw [Array.getD_eq_getD_getElem?, hoj]; rfl
    rw [g1, g2] at this
    simpa using this
  intro n
  induction n with
  | zero =>
    intro es t m m1 listed Im ρ a w hn htr hm1 hpw hls hl hcl hs hf1 hf2
    have hes : es = [] := List.eq_nil_of_length_eq_zero hn
    subst hes
    cases htr
    refine ⟨?_, hk Im ρ a w (hs.look_eq (fun r => (hm1 r).symm)) hf2⟩
    simp only [Region.ready, List.filter_eq_nil_iff, List.mem_range]
    intro i hi hh
    simp only [Bool.and_eq_true, Bool.not_eq_true'] at hh
    have := (hl i hi).1 hh.1
    cases this
  | succ n ih =>
    intro es t m m1 listed Im ρ a w hn htr hm1 hpw hls hl hcl hs hf1 hf2
    refine ⟨fun hr => ?_, fun i hi => ?_⟩
    · -- the first that is left is ready
      exfalso
      cases es with
      | nil => cases hn
      | cons p es =>
        obtain ⟨i, ei⟩ := p
        have hilt := Tr_idx htr (i, ei) (by simp)
        have hnl := (hl i hilt).2 (by simp)
        obtain ⟨o, ho⟩ : ∃ o, ops[i]? = some o := ⟨_, Array.getElem?_eq_getElem hilt⟩
        have hmem : i ∈ Region.ready .any ops listed := by
          simp only [Region.ready, List.mem_filter, List.mem_range, Bool.and_eq_true, Bool.not_eq_true']
          refine ⟨hilt, hnl, ?_⟩
          rw [ho]
          simp only [Option.map_some, Option.getD_some]
          rw [← Array.all_toList, List.all_eq_true]
          intro e he
          cases hbi : Region.binds .any e with
          | false => rfl
          | true =>
          have hlt := hafter i o ho e he hbi
          have : listed.getD e.on true ≠ false := by
            intro hh
            have := (hl e.on (by omega)).1 hh
            simp only [List.map_cons, List.mem_cons, List.mem_map] at this
            rcases this with h | ⟨p, hp, h⟩
            · omega
            · have := (List.pairwise_cons.1 hpw).1 p hp
              have := this.1
              simp only at this
              omega
          have h2 : listed.getD e.on false = true := by
            have hsz : e.on < listed.size := by rw [hls]; omega
            simp only [Array.getD_eq_getD_getElem?, Array.getElem?_eq_getElem hsz, Option.getD_some] at this ⊢
            simpa using this
          simp [h2]
        rw [hr] at hmem
        cases hmem
    · obtain ⟨hilt, hnl, hrd⟩ := mem_ready hi
      have hin := (hl i hilt).1 hnl
      obtain ⟨⟨i', ei⟩, hmem, rfl⟩ := List.mem_map.1 hin
      obtain ⟨A, B, rfl⟩ := List.append_of_mem hmem
      simp only at hilt hnl hrd hi
      obtain ⟨o, ho⟩ : ∃ o, ops[i']? = some o := ⟨_, Array.getElem?_eq_getElem hilt⟩
      have hA : ∀ p ∈ A, indep cx.P ops (Region.before ops) p (i', ei) ∧ ((Region.before ops).getD i' 0).testBit p.1 = false := by
        intro p hp
        refine ⟨(List.pairwise_append.1 hpw).2.2 p hp _ (by simp), ?_⟩
        cases hb : ((Region.before ops).getD i' 0).testBit p.1 with
        | false => rfl
        | true =>
          exfalso
          have hpl := Tr_idx htr p (by simp [hp])
          have hpn := (hl p.1 hpl).2 (by simp only [List.map_append, List.mem_append, List.mem_map]; exact .inl ⟨p, hp, rfl⟩)
          obtain ⟨o', ho', e, he, hbi, hor⟩ := before_spec ops i' p.1 hb
          rw [ho] at ho'; cases ho'
          have hel := hrd o ho e he hbi
          have hes : listed.getD p.1 false = true := by
            rcases hor with h | h
            · rw [← h]; exact hel
            · have hlt := hafter i' o ho e he hbi
              have hsz : e.on < listed.size := by rw [hls]; omega
              refine hcl e.on (by omega) ?_ p.1 h
              simp only [Array.getD_eq_getD_getElem?, Array.getElem?_eq_getElem hsz, Option.getD_some] at hel ⊢
              exact hel
          have hsz : p.1 < listed.size := by rw [hls]; exact hpl
          simp only [Array.getD_eq_getD_getElem?, Array.getElem?_eq_getElem hsz, Option.getD_some] at hes hpn
          rw [hes] at hpn; cases hpn
      obtain ⟨m2, htr2, hm2⟩ := Tr_front (bf := Region.before ops) (fun j oj oi hji hb e1 e2 => hapart i' j oj oi hji hb e1 e2) htr hA
      have hpw' : (A ++ B).Pairwise (indep cx.P ops (Region.before ops)) := by
        refine hpw.sublist ?_
        exact List.Sublist.append (List.Sublist.refl _) (List.sublist_cons_self _ _)
      have hlen' : (A ++ B).length = n := by simp at hn ⊢; omega
      have hni : ∀ p ∈ A ++ B, p.1 ≠ i' := by
        intro p hp
        rcases List.mem_append.1 hp with hp | hp
        · have := (hA p hp).1.1; simp only at this; omega
        · have h1 := (List.pairwise_append.1 hpw).2.1
          have := (List.pairwise_cons.1 h1).1 p hp
          have := this.1; simp only at this; omega
      have hls' : (listed.setIfInBounds i' true).size = ops.size := by simp [hls]
      have hgd : ∀ k b, k < ops.size → (listed.setIfInBounds i' true).getD k b = if k = i' then true else listed.getD k b := by
        intro k b hk
        simp only [Array.getD_eq_getD_getElem?, Array.getElem?_setIfInBounds]
        by_cases e : i' = k
        · subst e; simp [hls, hilt]
        · rw [if_neg e, if_neg (Ne.symm e)]
      have hl' : ∀ k, k < ops.size → ((listed.setIfInBounds i' true).getD k true = false ↔ k ∈ (A ++ B).map (·.1)) := by
        intro k hk
        rw [hgd k true hk]
        by_cases e : k = i'
        · subst e
          simp only [if_true, Bool.true_eq_false, List.mem_map, false_iff, not_exists, not_and]
          exact fun p hp e => hni p hp e
        · rw [if_neg e, hl k hk]
          simp only [List.map_append, List.map_cons, List.mem_append, List.mem_cons]
          constructor
          · rintro (h | h | h)
            · exact .inl h
            · exact absurd h e
            · exact .inr h
          · rintro (h | h)
            · exact .inl h
            · exact .inr (.inr h)
      have hcl' : ∀ k, k < ops.size → (listed.setIfInBounds i' true).getD k true = true → ∀ j, ((Region.before ops).getD k 0).testBit j = true → (listed.setIfInBounds i' true).getD j false = true := by
        intro k hk hkt j hj
        have hmono : ∀ j, listed.getD j false = true → (listed.setIfInBounds i' true).getD j false = true := by
          intro j hj
          rcases Nat.lt_or_ge j ops.size with h | h
          · rw [hgd j false h]; split
            · rfl
            · exact hj
          · rw [Array.getD_eq_getD_getElem?, Array.getElem?_eq_none (by rw [hls]; exact h)] at hj
            cases hj
        refine hmono j ?_
        rw [hgd k true hk] at hkt
        by_cases e : k = i'
        · subst e
          obtain ⟨o', ho', e, he, hbi, hor⟩ := before_spec ops k j hj
          rw [ho] at ho'; cases ho'
          have hel := hrd o ho e he hbi
          rcases hor with h | h
          · rw [← h]; exact hel
          · have hlt := hafter k o ho e he hbi
            have hsz : e.on < listed.size := by rw [hls]; omega
            refine hcl e.on (by omega) ?_ j h
            simp only [Array.getD_eq_getD_getElem?, Array.getElem?_eq_getElem hsz, Option.getD_some] at hel ⊢
            exact hel
        · rw [if_neg e] at hkt
          exact hcl k hk hkt j hj
      unfold wpOpIn
      rw [ho]
      simp only
      cases htr2 with
      | skip ho2 hg h =>
        rw [ho] at ho2; cases ho2
        rw [guard_spec hs hg, if_neg (by simp)]
        refine ⟨fun _ _ => trivial, ?_⟩
        refine ih _ _ _ _ _ Im ρ _ w hlen' h (fun r => (hm2 r).trans (hm1 r)) hpw' hls' hl' hcl' (hs.skip o.dst) (fun k hk => ?_) hf2
        refine hf1 k ?_
        simp only [List.map_append, List.map_cons, List.mem_append, List.mem_cons] at hk ⊢
        exact hk.imp id .inr
      | op ho2 hg hd h =>
        rw [ho] at ho2; cases ho2
        rw [guard_spec hs hg, if_pos rfl]
        have hfi := hf1 i' hin
        refine op_sound hD hd hs.rs hs.tm hfi (fun v w' Im' ρ' hE hv => ?_)
        refine ih _ _ _ _ _ Im' ρ' _ w' hlen' h (fun r => (hm2 r).trans (hm1 r)) hpw' hls' hl' hcl' (hs.step hE (by omega) o.dst hv) (fun k hk q h1 h2 => ?_) (fun q hq => hE.born q (hf2 q hq) (by omega))
        obtain ⟨p, hp, rfl⟩ := List.mem_map.1 hk
        have hne := hni p hp
        have hklt := Tr_idx h p hp
        refine hE.born q (hf1 p.1 ?_ q h1 h2) (by omega)
        simp only [List.map_append, List.map_cons, List.mem_append, List.mem_cons] at hk ⊢
        exact hk.imp id .inr

/-! ### With a panic -/
theorem killL_get : ∀ (l : List Oper) (t : List AV) (x : Nat), (killL l t)[x]? = if ∃ o ∈ l, o.dst = some x then (t[x]?).map (fun _ => AV.dead) else t[x]?
  | [], t, x => by simp [killL]
  | o :: l, t, x => by
    simp only [killL]
    rw [killL_get l]
    by_cases h1 : ∃ o' ∈ l, o'.dst = some x
    · obtain ⟨o', ho', hx⟩ := h1
      rw [if_pos ⟨o', ho', hx⟩, if_pos ⟨o', List.mem_cons_of_mem _ ho', hx⟩]
      cases hd : o.dst with
      | none => rfl
      | some d =>
        simp only [putT, List.getElem?_set]
        split
        · rename_i e; subst e
          split
          · rename_i hlt; simp [hlt]
          · rename_i hlt; simp [hlt]
        · rfl
    · rw [if_neg h1]
      cases hd : o.dst with
      | none =>
        rw [if_neg]
        · rfl
        · rintro ⟨o', ho', hx⟩
          rcases List.mem_cons.1 ho' with rfl | ho'
          · rw [hd] at hx; cases hx
          · exact h1 ⟨o', ho', hx⟩
      | some d =>
        simp only [putT, List.getElem?_set]
        by_cases e : d = x
        · subst e
          have hex : ∃ o' ∈ o :: l, o'.dst = some d := ⟨o, by simp, hd⟩
          rw [if_pos rfl, if_pos hex]
          split
          · rename_i hlt; simp [hlt]
          · rename_i hlt; simp [hlt]
        · rw [if_neg e, if_neg]
          rintro ⟨o', ho', hx⟩
          rcases List.mem_cons.1 ho' with rfl | ho'
          · rw [hd] at hx; cases hx; exact e rfl
          · exact h1 ⟨o', ho', hx⟩

theorem killL_put {l : List Oper} {o : Oper} (ho : o ∈ l) (t : List AV) (v : AV) : killL l (putT t o.dst v) = killL l t := by
  apply List.ext_getElem?
  intro x
  rw [killL_get, killL_get]
  split
  · cases hd : o.dst with
    | none => rfl
    | some d =>
      simp only [putT, List.getElem?_set]
      split
      · rename_i e; subst e
        split
        · rename_i hlt; simp [hlt]
        · rename_i hlt; simp [hlt]
      · rfl
  · rename_i hn
    cases hd : o.dst with
    | none => rfl
    | some d =>
      simp only [putT, List.getElem?_set]
      rw [if_neg (fun e => hn ⟨o, ho, by rw [hd, e]⟩)]

theorem Tr_kill {cx ops nx es t m t' m'} (h : Tr cx ops nx es t m t' m') : killL ops.toList t' = killL ops.toList t := by
  induction h with
  | nil => rfl
  | skip ho hg h ih =>
    rw [ih]
    exact killL_put (Array.mem_toList_iff.2 (Array.mem_of_getElem? ho)) _ _
  | op ho hg hd h ih =>
    rw [ih]
    exact killL_put (Array.mem_toList_iff.2 (Array.mem_of_getElem? ho)) _ _

theorem VRs_kill {w Im ρ} : ∀ (l : List Oper) {t : List AV} {vs : List Value}, VRs w Im ρ t vs → VRs w Im ρ (killL l t) vs
  | [], t, vs, h => h
  | o :: l, t, vs, h => by
    simp only [killL]
    refine VRs_kill l ?_
    cases hd : o.dst with
    | none => exact h
    | some d =>
      simp only [putT]
      have := VRs_set h d (x := .dead) (v := vs.getD d undef) trivial
      have e : vs.set d (vs.getD d undef) = vs := by
        apply List.ext_getElem?
        intro x
        rw [List.getElem?_set]
        split
        · rename_i e; subst e
          split
          · rename_i hlt; simp [List.getD, hlt]
          · rename_i hlt; simp [hlt]
        · rfl
      rw [e] at this
      exact this

theorem killL_len : ∀ (l : List Oper) (t : List AV), (killL l t).length = t.length
  | [], t => rfl
  | o :: l, t => by simp only [killL]; rw [killL_len l, putT_len]

/-- Nothing in the way of the one that panics: rows stay. -/
theorem Tr_quiet {cx ops nx es t m t' m'} (h : Tr cx ops nx es t m t' m') (hq : ∀ p ∈ es, ∀ e, p.2 = some e → keys e = []) : m' = m := by
  induction h with
  | nil => rfl
  | skip ho hg h ih => exact ih (fun p hp => hq p (List.mem_cons_of_mem _ hp))
  | op ho hg hd h ih =>
    rename_i d es t m t' m'
    have : d.up = [] := by
      have := hq _ (List.mem_cons.2 (.inl rfl)) d rfl
      simpa [keys] using this
    rw [ih (fun p hp => hq p (List.mem_cons_of_mem _ hp)), this]
    rfl

theorem Tr_looks {cx ops nx es t m t' m'} (h : Tr cx ops nx es t m t' m') {o : Oper} (hap : ∀ p ∈ es, ∀ oj, ops[p.1]? = some oj → oj.apart ops o = true) : ∀ n ∈ o.looksAt ops, t'.getD n .dead = t.getD n .dead := by
  induction h with
  | nil => exact fun n _ => rfl
  | skip ho hg h ih =>
    intro n hn
    rw [ih (fun p hp => hap p (List.mem_cons_of_mem _ hp)) n hn]
    exact apart_looks (hap _ (List.mem_cons.2 (.inl rfl)) _ ho) _ n hn
  | op ho hg hd h ih =>
    intro n hn
    rw [ih (fun p hp => hap p (List.mem_cons_of_mem _ hp)) n hn]
    exact apart_looks (hap _ (List.mem_cons.2 (.inl rfl)) _ ho) _ n hn

theorem adel_localp {cx : Cx} {o : Oper} {nb : Nat} {t : List AV} {m m2 : Rows} {d : Dl} (h : (adel cx o nb t m).getp = some d) (hm : mayP o.op = true) (hs : ∀ r, look m2 r = look m r) : (adel cx o nb t m2).getp = some d := by
  unfold mayP at hm
  split at hm
  · rename_i x hop
    simp only [adel, hop] at h ⊢
    exact h
  · rename_i c hop
    split at hm
    · rename_i fo hcal
      simp only [adel, hop] at h ⊢
      split at h
      · rename_i avs has
        rw [hcal] at h ⊢
        simp only at h ⊢
        split at h
        · rename_i f cap hfo
          cases hmb : mB f with
          | false =>
            rw [hmb] at h
            simp only [cond_false] at h ⊢
            cases hlt : fnB (mDec f) with
            | false => rw [hlt] at h; cases h
            | true =>
            rw [hlt] at h
            simp only [cond_true] at h ⊢
            rw [opCall_same (m2 := m2) (OR.gete_getp h) (fun r _ => hs r)]
            exact h
          | true =>
          rw [hmb] at h
          simp only [cond_true] at h ⊢
          cases hsame : isSame cx.P f with
          | true => rw [hsame] at h; exact h
          | false =>
          rw [hsame] at h
          simp only [cond_false] at h ⊢
          cases hmc : isMClone cx.P f with
          | true =>
            rw [hmc] at h
            simp only [cond_true] at h
            unfold opMClone at h
            split at h
            · split at h <;> cases h
            · cases h
          | false =>
          rw [hmc] at h
          simp only [cond_false] at h ⊢
          cases hlt : fnB f with
          | false => rw [hlt] at h; cases h
          | true =>
          rw [hlt] at h
          simp only [cond_true] at h ⊢
          rw [opCall_same (m2 := m2) (OR.gete_getp h) (fun r _ => hs r)]
          exact h
        · exact (opYield_getp h).elim
        · cases h
      · cases h
    · cases hm
  · cases hm

/-- Rows that nobody asks for any more. -/
theorem SR.drop {c Im ρ t m a w} (h : SR c Im ρ t m a w) {m2 : Rows} (hm : ∀ r, look m2 r = look m r ∨ look m2 r = none) : ∃ ρ2, SR c Im ρ2 t m2 a w ∧ ∀ q, ρ q = .unborn → ρ2 q = .unborn := by
  let ρ2 : Nat → Loc := fun q => if (look m2 q).isSome then ρ q else if ρ q = .unborn then .unborn else .gone
  have hE : Ext ρ ρ2 := fun q => by
    simp only [ρ2]
    split
    · exact .inl rfl
    · split
      · rename_i hu; exact .inl hu.symm
      · exact .inr (.inl rfl)
  have hb : ∀ q g n cc, ρ2 q = .blk g n cc → ρ q = .blk g n cc := by
    intro q g n cc e
    simp only [ρ2] at e
    split at e
    · exact e
    · split at e <;> cases e
  refine ⟨ρ2, ⟨⟨?_, ?_, ?_, ?_, h.rs.imlt, h.rs.gd⟩, h.sz, VRs_mono (fun _ _ => rfl) (fun _ h => h) hE _ _ h.tm, h.df.step (Kp.refl _ _) (fun b e => .inl e) (fun b ⟨r, n, q, e⟩ => .inr ⟨r, n, q, hb _ _ _ _ e⟩), h.kp, h.im0, h.imn, ?_, ?_⟩, ?_⟩
  · intro r x hx
    have hx2 : look m r = some x := by
      rcases hm r with e | e
      · rw [← e]; exact hx
      · rw [e] at hx; cases hx
    obtain ⟨h1, h2, h3⟩ := h.rs.row r x hx2
    refine ⟨h1, h2, ?_⟩
    have e0 : ρ2 r = ρ r := by simp only [ρ2]; rw [hx]; rfl
    rw [e0]
    cases e : ρ r with
    | unborn => rw [e] at h3; exact h3
    | gone => rw [e] at h3; exact h3
    | virt => rw [e] at h3; exact h3
    | blk g n cap => rw [e] at h3; exact h3.mono (fun _ _ => rfl) (fun _ h => h) hE rfl
  · intro r hr
    simp only [ρ2]
    rw [hr]
    simp only [Option.isSome_none, Bool.false_eq_true, if_false]
    split
    · exact .inr rfl
    · exact .inl rfl
  · intro a b g n q n' q' e1 e2
    exact h.rs.inj _ _ _ _ _ _ _ (hb _ _ _ _ e1) (hb _ _ _ _ e2)
  · intro r g n q e1
    exact h.rs.noim _ _ _ _ (hb _ _ _ _ e1)
  · rintro b ⟨r, n, q, e⟩
    exact h.own b ⟨r, n, q, hb _ _ _ _ e⟩
  · intro q hq
    rcases hE q with e | e | e
    · rw [e]; exact h.root q hq
    · exact .inr e
    · have : ρ2 q = ρ q := by
        simp only [ρ2]
        split
        · rfl
        · simp [e]
      rw [this]; exact h.root q hq
  · intro q hq
    simp only [ρ2]
    split
    · exact hq
    · simp [hq]

theorem Tr_put {cx ops nx es t m t' m'} (h : Tr cx ops nx es t m t' m') {y : Oper} (hap : ∀ p ∈ es, ∀ oj, ops[p.1]? = some oj → oj.apart ops y = true) (v : AV) : Tr cx ops nx es (putT t y.dst v) m (putT t' y.dst v) m' := by
  induction h with
  | nil => exact .nil _ _
  | skip ho hg h ih =>
    have hp := hap _ (List.mem_cons.2 (.inl rfl)) _ ho
    refine .skip ho ((guard_same (apart_looks' hp v)).trans hg) ?_
    rw [put_comm (fun x e => fun e2 => (Oper.apart_spec hp).2.1 x e2 e)]
    exact ih (fun p hp => hap p (List.mem_cons_of_mem _ hp))
  | op ho hg hd h ih =>
    have hp := hap _ (List.mem_cons.2 (.inl rfl)) _ ho
    refine .op ho ((guard_same (apart_looks' hp v)).trans hg) (by rw [adel_ev (ev_same (apart_looks' hp v))]; exact hd) ?_
    rw [put_comm (fun x e => fun e2 => (Oper.apart_spec hp).2.1 x e2 e)]
    exact ih (fun p hp => hap p (List.mem_cons_of_mem _ hp))

/-- A variable that is made: by none of what stands about. -/
theorem free_any {cx : Cx} {ops : Array Oper} {nx k : Nat} (h : freeB cx ops nx k = true) : ∃ o d, ops[k]? = some o ∧ o.guard = none ∧ (∀ t m, (adel cx o (nx + 64 * k) t m).get = some d) ∧ ∀ q ∈ keys d, nx + 64 * k ≤ q ∧ q < nx + 64 * k + 64 := by
  unfold freeB at h
  split at h
  · rename_i o ho
    split at h
    · rename_i e hg hop
      split at h
      · rename_i d hd
        simp only [Bool.and_eq_true, List.isEmpty_iff, List.all_eq_true, Nat.ble_eq, Nat.blt_eq] at h
        refine ⟨o, d, ho, hg, fun t m => ?_, fun q hq => ?_⟩
        · have h1 : adel cx o (nx + 64 * k) t [] = adel cx o (nx + 64 * k) [] [] := adel_ev (fun x hx => by rw [hop] at hx; simp [Op.operands] at hx)
          rw [← h1] at hd
          exact adel_local hd (fun r hr => by rw [h.1] at hr; cases hr)
        · obtain ⟨p, hp, rfl⟩ := List.mem_map.1 hq
          exact h.2 p hp
      · cases h
    · cases h
  · cases h

theorem wanted_free' {o : Oper} {y : Nat → Option Bool} (h : o.guard = none) : Region.wanted o y = true := by
  unfold Region.wanted
  rw [h]

theorem wpAny_trP {cx : Cx} (hD : DOK cx) {rd : Option Nat} {c : Cst} {ops : Array Oper} {nx : Nat} (hmm : c.mm ≤ nx) (hok : apartOK ops (Region.before ops) = true) {Q : Exit → Act → World → Prop} {ip : Nat} {op : Oper} {d : Dl} (hip : ops[ip]? = some op) (hmp : mayP op.op = true)
    (hw : waits cx ops (Region.before ops) nx ip = true) {tk : List AV} {mp : Rows}
    (hk : ∀ u Im' ρ' a' w', SR c Im' ρ' (d.v :: tk) mp { a' with tmps := #[u] ++ a'.tmps } w' → (∀ q, nx + 64 * ops.size ≤ q → ρ' q = .unborn) → Q (.panic [{ v := u, recovered := false }]) a' w') :
    ∀ (fuel : Nat) (rem : List Nat) (es : List (Nat × Option Dl)) (t : List AV) (m : Rows) (t' : List AV) (m1 : Rows) (listed : Array Bool) (Im : Nat → Prop) (ρ : Nat → Loc) (a : Act) (w : World), rem.length ≤ fuel → (∀ i, i < ops.size → listed.getD i true = false → i ∈ rem) →
      Tr cx ops nx es t m t' m1 → guardB ops t' op = some true → (adel cx op (nx + 64 * ip) t' m1).getp = some d → killL ops.toList t' = tk → (∀ r, look (upR m1 d.up) r = look mp r) →
      (∀ p ∈ es, ∀ e, p.2 = some e → ((Region.before ops).getD ip 0).testBit p.1 = true ∨ keys e = []) → (∀ p ∈ es, p.1 < ip) → es.Pairwise (indep cx.P ops (Region.before ops)) → listed.size = ops.size → (∀ i, i < ip → (listed.getD i true = false ↔ i ∈ es.map (·.1))) → listed.getD ip true = false →
      (∀ i, i < ops.size → listed.getD i true = true → ∀ j, ((Region.before ops).getD i 0).testBit j = true → listed.getD j false = true) →
      SR c Im ρ t m a w → (∀ i, i < ops.size → listed.getD i true = false → ∀ q, nx + 64 * i ≤ q → q < nx + 64 * i + 64 → ρ q = .unborn) → (∀ q, nx + 64 * ops.size ≤ q → ρ q = .unborn) →
      wpAnyIn (FW rd) 0 cx.P .any ops Q fuel listed a w := by
  have hafter : ∀ (i : Nat) (o : Oper), ops[i]? = some o → ∀ e ∈ o.after.toList, Region.binds .any e = true → e.on < i := by
    intro i o ho e he hbi
    simp only [apartOK, Bool.and_eq_true, List.all_eq_true, List.mem_range] at hok
    have hi := (Array.getElem?_eq_some_iff.1 ho).1
    have := hok.1 i hi
    have hg : ops.getD i default = o := by rw [Array.getD_eq_getD_getElem?, ho]; rfl
    rw [hg, ← Array.all_toList] at this
    simpa [hbi] using List.all_eq_true.1 this e he
  have hapart : ∀ (i j : Nat) (oj oi : Oper), j < i → ((Region.before ops).getD i 0).testBit j = false → ops[j]? = some oj → ops[i]? = some oi → oj.apart ops oi = true := by
    intro i j oj oi hji hb hoj hoi
    simp only [apartOK, Bool.and_eq_true, List.all_eq_true, List.mem_range, Bool.or_eq_true] at hok
    have hi := (Array.getElem?_eq_some_iff.1 hoi).1
    have := hok.2 i hi j hji
    rw [hb] at this
    have g1 : ops.getD i default = oi := by rw [Array.getD_eq_getD_getElem?, hoi]; rfl
    have g2 : ops.getD j default = oj := by rw [Array.getD_eq_getD_getElem?, hoj]; rfl
    rw [g1, g2] at this
    simpa using this
  have hips : ip < ops.size := (Array.getElem?_eq_some_iff.1 hip).1
  intro fuel
  induction fuel with
  | zero =>
    intro rem es t m t' m1 listed Im ρ a w hrl hrem htr hgp hdp htk hmpk hq hlt hpw hls hl hlp hcl hs hf1 hf2
    have := hrem ip hips hlp
    have h0 : rem = [] := List.eq_nil_of_length_eq_zero (by omega)
    rw [h0] at this
    cases this
  | succ fuel ih =>
  intro rem es t m t' m1 listed Im ρ a w hrl hrem htr hgp hdp htk hmpk hq hlt hpw hls hl hlp hcl hs hf1 hf2
  -- what stands ahead of a ready one is done
  have done : ∀ (i : Nat) (o : Oper), ops[i]? = some o → (∀ e ∈ o.after.toList, Region.binds .any e = true → listed.getD e.on false = true) → ∀ j, ((Region.before ops).getD i 0).testBit j = true → listed.getD j false = true := by
    intro i o ho hrd j hj
    obtain ⟨o', ho', e, he, hbi, hor⟩ := before_spec ops i j hj
    rw [ho] at ho'; cases ho'
    have hel := hrd e he hbi
    rcases hor with h | h
    · rw [← h]; exact hel
    · have hlt := hafter i o ho e he hbi
      have hi := (Array.getElem?_eq_some_iff.1 ho).1
      have hsz : e.on < listed.size := by rw [hls]; omega
      refine hcl e.on (by omega) ?_ j h
      simp only [Array.getD_eq_getD_getElem?, Array.getElem?_eq_getElem hsz, Option.getD_some] at hel ⊢
      exact hel
  have notboth : ∀ i, i < ops.size → listed.getD i true = false → listed.getD i false = true → False := by
    intro i hi h1 h2
    have hsz : i < listed.size := by rw [hls]; exact hi
    simp only [Array.getD_eq_getD_getElem?, Array.getElem?_eq_getElem hsz, Option.getD_some] at h1 h2
    rw [h1] at h2; cases h2
  refine ⟨fun hr => ?_, fun i hi => ?_⟩
  · -- one is ready
    exfalso
    have key : ∀ i, i < ops.size → listed.getD i true = false → (∀ j, j < i → listed.getD j true = false → False) → False := by
      intro i hilt hnl hmin
      obtain ⟨o, ho⟩ : ∃ o, ops[i]? = some o := ⟨_, Array.getElem?_eq_getElem hilt⟩
      have hmem : i ∈ Region.ready .any ops listed := by
        simp only [Region.ready, List.mem_filter, List.mem_range, Bool.and_eq_true, Bool.not_eq_true']
        refine ⟨hilt, hnl, ?_⟩
        rw [ho]
        simp only [Option.map_some, Option.getD_some]
        rw [← Array.all_toList, List.all_eq_true]
        intro e he
        cases hbi : Region.binds .any e with
        | false => rfl
        | true =>
        have hlt := hafter i o ho e he hbi
        have : listed.getD e.on true ≠ false := fun hh => hmin e.on hlt hh
        have h2 : listed.getD e.on false = true := by
          have hsz : e.on < listed.size := by rw [hls]; omega
          simp only [Array.getD_eq_getD_getElem?, Array.getElem?_eq_getElem hsz, Option.getD_some] at this ⊢
          simpa using this
        simp [h2]
      rw [hr] at hmem
      cases hmem
    cases es with
    | nil => exact key ip hips hlp (fun j hj hh => by
        have h := (hl j hj).1 hh
        cases h)
    | cons p es =>
      have hpl := Tr_idx htr p (by simp)
      have hpi := hlt p (by simp)
      refine key p.1 hpl ((hl p.1 hpi).2 (by simp)) (fun j hj hh => ?_)
      have h := (hl j (by omega)).1 hh
      simp only [List.map_cons, List.mem_cons, List.mem_map] at h
      rcases h with h | ⟨q, hq, h⟩
      · omega
      · have := ((List.pairwise_cons.1 hpw).1 q hq).1
        omega
  · obtain ⟨hilt, hnl, hrd⟩ := mem_ready hi
    have hdrem : ∀ k, k < ops.size → (listed.setIfInBounds i true).getD k true = false → k ∈ rem.erase i := by
      intro k hk hkf
      have hki : k ≠ i := by
        rintro rfl
        simp [Array.getD_eq_getD_getElem?, Array.getElem?_setIfInBounds, hls, hk] at hkf
      have : listed.getD k true = false := by
        simp only [Array.getD_eq_getD_getElem?, Array.getElem?_setIfInBounds] at hkf ⊢
        rw [if_neg (Ne.symm hki)] at hkf
        exact hkf
      exact (List.mem_erase_of_ne hki).2 (hrem k hk this)
    have hrlen : (rem.erase i).length ≤ fuel := by
      rw [List.length_erase_of_mem (hrem i hilt hnl)]
      have := List.length_pos_of_mem (hrem i hilt hnl)
      omega
    rcases Nat.lt_or_ge i ip with hlti | hge
    case inr =>
      obtain ⟨o, ho⟩ : ∃ o, ops[i]? = some o := ⟨_, Array.getElem?_eq_getElem hilt⟩
      have hdone := done i o ho (hrd o ho)
      rcases Nat.lt_or_eq_of_le hge with hgt | heq
      · have := List.all_eq_true.1 hw i (List.mem_range.2 hilt)
        simp only [Bool.or_eq_true, Nat.ble_eq] at this
        rcases this.resolve_left (by omega) with hb | hfr
        · exact (notboth ip hips hlp (hdone ip hb)).elim
        · -- a variable is made
          have hnb : ((Region.before ops).getD i 0).testBit ip = false := by
            cases hb : ((Region.before ops).getD i 0).testBit ip with
            | false => rfl
            | true => exact (notboth ip hips hlp (hdone ip hb)).elim
          obtain ⟨o', dk, ho', hgk, hdk, hkk⟩ := free_any hfr
          rw [ho] at ho'; cases ho'
          have hapo : op.apart ops o = true := hapart i ip op o hgt hnb hip ho
          have hape : ∀ p ∈ es, ∀ oj, ops[p.1]? = some oj → oj.apart ops o = true := by
            intro p hp oj hoj
            have hpi := hlt p hp
            refine hapart i p.1 oj o (by omega) ?_ hoj ho
            cases hb : ((Region.before ops).getD i 0).testBit p.1 with
            | false => rfl
            | true => exact (notboth p.1 (Tr_idx htr p hp) ((hl p.1 hpi).2 (List.mem_map.2 ⟨p, hp, rfl⟩)) (hdone p.1 hb)).elim
          unfold wpOpIn
          rw [ho]
          simp only
          rw [wanted_free' hgk, if_pos rfl]
          refine op_sound hD (hdk t m) hs.rs hs.tm (hf1 i hilt hnl) (fun v w' Im' ρ' hE hv => ?_)
          have hs1 := hs.step hE (by omega) o.dst hv
          -- its row is forgotten at once
          have hlk : ∀ r, look m r = look (upR m dk.up) r ∨ look m r = none := by
            intro r
            by_cases hr : r ∈ dk.up.map (·.1)
            · right
              have hrr := hkk r hr
              have hun := hf1 i hilt hnl r hrr.1 hrr.2
              cases hx : look m r with
              | none => rfl
              | some x =>
                obtain ⟨_, _, h3⟩ := hs.rs.row r x hx
                rw [hun] at h3
                exact h3.elim
            · exact .inl (look_up_out _ _ r hr).symm
          obtain ⟨ρ2, hs2, hun2⟩ := hs1.drop hlk
          have hs3 : SR c Im' ρ2 (putT t o.dst .dead) m (a.put o.dst v) w' := by
            refine ⟨hs2.rs, by have := hs2.sz; rw [putT_len] at this ⊢; exact this, ?_, hs2.df, hs2.kp, hs2.im0, hs2.imn, hs2.own, hs2.root⟩
            cases hd : o.dst with
            | none =>
              have := hs2.tm
              rw [hd] at this
              exact this
            | some dd =>
              have := VRs_set hs2.tm dd (x := .dead) (v := v) trivial
              rw [hd] at this
              simp only [putT, Act.put, Array.toList_setIfInBounds, List.set_set] at this ⊢
              exact this
          have hls' : (listed.setIfInBounds i true).size = ops.size := by simp [hls]
          have hgd : ∀ k b, k < ops.size → (listed.setIfInBounds i true).getD k b = if k = i then true else listed.getD k b := by
            intro k b hk
            simp only [Array.getD_eq_getD_getElem?, Array.getElem?_setIfInBounds]
            by_cases e : i = k
            · subst e; simp [hls, hilt]
            · rw [if_neg e, if_neg (Ne.symm e)]
          refine ih (rem.erase i) es (putT t o.dst .dead) m (putT t' o.dst .dead) m1 _ Im' ρ2 _ w' hrlen hdrem (Tr_put htr hape _) ((guard_same (apart_looks' hapo _)).trans hgp) (by rw [adel_ev (ev_same (apart_looks' hapo _))]; exact hdp) ?_ hmpk hq hlt hpw hls' (fun k hk => ?_) ?_ ?_ hs3 (fun k hk hkf q h1 h2 => ?_) (fun q hq => hun2 q (hE.born q (hf2 q hq) (by omega)))
          · rw [killL_put (Array.mem_toList_iff.2 (Array.mem_of_getElem? ho))]; exact htk
          · rw [hgd k true (by omega), if_neg (by omega)]; exact hl k hk
          · rw [hgd ip true hips, if_neg (by omega)]; exact hlp
          · intro k hk hkt j hj
            have hmono : ∀ j, listed.getD j false = true → (listed.setIfInBounds i true).getD j false = true := by
              intro j hj
              rcases Nat.lt_or_ge j ops.size with h | h
              · rw [hgd j false h]; split
                · rfl
                · exact hj
              · rw [Array.getD_eq_getD_getElem?, Array.getElem?_eq_none (by rw [hls]; exact h)] at hj
                cases hj
            refine hmono j ?_
            rw [hgd k true hk] at hkt
            by_cases e : k = i
            · subst e; exact hdone j hj
            · rw [if_neg e] at hkt
              exact hcl k hk hkt j hj
          · have hki : k ≠ i := by
              rintro rfl
              rw [hgd k true hk, if_pos rfl] at hkf; cases hkf
            rw [hgd k true hk, if_neg hki] at hkf
            exact hun2 q (hE.born q (hf1 k hk hkf q h1 h2) (by omega))
      · subst heq
        rw [hip] at ho; cases ho
        have hfree : ∀ p ∈ es, ((Region.before ops).getD ip 0).testBit p.1 = false := by
          intro p hp
          cases hb : ((Region.before ops).getD ip 0).testBit p.1 with
          | false => rfl
          | true => exact (notboth p.1 (Tr_idx htr p hp) ((hl p.1 (hlt p hp)).2 (List.mem_map.2 ⟨p, hp, rfl⟩)) (hdone p.1 hb)).elim
        have hmm1 : m1 = m := Tr_quiet htr (fun p hp e he => (hq p hp e he).resolve_left (by rw [hfree p hp]; simp))
        subst hmm1
        have hlk := Tr_looks htr (o := op) (fun p hp oj hoj => hapart ip p.1 oj op (hlt p hp) (hfree p hp) hoj hip)
        unfold wpOpIn
        rw [hip]
        simp only
        rw [guard_spec hs ((guard_same hlk).symm.trans hgp), if_pos rfl]
        have hdp2 : (adel cx op (nx + 64 * ip) t m1).getp = some d := by
          rw [adel_ev (ev_same hlk)] at hdp
          exact hdp
        refine op_panics hD hdp2 hmp hs.rs hs.tm (fun q h1 h2 => hf1 ip hips hlp q h1 h2) (fun u w' Im' ρ' hE hv => ?_)
        have hs' := hs.step hE (by omega) none (x := d.v) (v := u) hv
        have hkt := Tr_kill htr
        rw [htk] at hkt
        refine hk u Im' ρ' a w' (SR.look_eq (m := upR m1 d.up) ⟨hs'.rs, ?_, ?_, hs'.df, hs'.kp, hs'.im0, hs'.imn, hs'.own, hs'.root⟩ (fun r => (hmpk r).symm)) (fun q hq => hE.born q (hf2 q hq) (by omega))
        · rw [hkt]
          have := hs.sz
          simp [killL_len]
          omega
        · rw [hkt, Array.toList_append]
          exact VRs_cons.2 ⟨u, _, rfl, hv, VRs_kill _ hs'.tm⟩
    have hin := (hl i hlti).1 hnl
    obtain ⟨⟨i', ei⟩, hmem, rfl⟩ := List.mem_map.1 hin
    obtain ⟨A, B, rfl⟩ := List.append_of_mem hmem
    simp only at hilt hnl hrd hi
    obtain ⟨o, ho⟩ : ∃ o, ops[i']? = some o := ⟨_, Array.getElem?_eq_getElem hilt⟩
    have hA : ∀ p ∈ A, indep cx.P ops (Region.before ops) p (i', ei) ∧ ((Region.before ops).getD i' 0).testBit p.1 = false := by
      intro p hp
      refine ⟨(List.pairwise_append.1 hpw).2.2 p hp _ (by simp), ?_⟩
      cases hb : ((Region.before ops).getD i' 0).testBit p.1 with
      | false => rfl
      | true =>
        exfalso
        have hpl := Tr_idx htr p (by simp [hp])
        have hpn := (hl p.1 (hlt p (List.mem_append.2 (.inl hp)))).2 (by simp only [List.map_append, List.mem_append, List.mem_map]; exact .inl ⟨p, hp, rfl⟩)
        obtain ⟨o', ho', e, he, hbi, hor⟩ := before_spec ops i' p.1 hb
        rw [ho] at ho'; cases ho'
        have hel := hrd o ho e he hbi
        have hes : listed.getD p.1 false = true := by
          rcases hor with h | h
          · rw [← h]; exact hel
          · have hlt := hafter i' o ho e he hbi
            have hsz : e.on < listed.size := by rw [hls]; omega
            refine hcl e.on (by omega) ?_ p.1 h
            simp only [Array.getD_eq_getD_getElem?, Array.getElem?_eq_getElem hsz, Option.getD_some] at hel ⊢
            exact hel
        have hsz : p.1 < listed.size := by rw [hls]; exact hpl
        simp only [Array.getD_eq_getD_getElem?, Array.getElem?_eq_getElem hsz, Option.getD_some] at hes hpn
        rw [hes] at hpn; cases hpn
    obtain ⟨m2, htr2, hm2⟩ := Tr_front (bf := Region.before ops) (fun j oj oi hji hb e1 e2 => hapart i' j oj oi hji hb e1 e2) htr hA
    have hpw' : (A ++ B).Pairwise (indep cx.P ops (Region.before ops)) := by
      refine hpw.sublist ?_
      exact List.Sublist.append (List.Sublist.refl _) (List.sublist_cons_self _ _)
    have hsub : ∀ p ∈ A ++ B, p ∈ A ++ (i', ei) :: B := fun p hp => by
      rcases List.mem_append.1 hp with h | h
      · exact List.mem_append.2 (.inl h)
      · exact List.mem_append.2 (.inr (List.mem_cons_of_mem _ h))
    have hi'ip : i' < ip := hlt (i', ei) (by simp)
    have hni : ∀ p ∈ A ++ B, p.1 ≠ i' := by
      intro p hp
      rcases List.mem_append.1 hp with hp | hp
      · have := (hA p hp).1.1; simp only at this; omega
      · have h1 := (List.pairwise_append.1 hpw).2.1
        have := (List.pairwise_cons.1 h1).1 p hp
        have := this.1; simp only at this; omega
    have hls' : (listed.setIfInBounds i' true).size = ops.size := by simp [hls]
    have hgd : ∀ k b, k < ops.size → (listed.setIfInBounds i' true).getD k b = if k = i' then true else listed.getD k b := by
      intro k b hk
      simp only [Array.getD_eq_getD_getElem?, Array.getElem?_setIfInBounds]
      by_cases e : i' = k
      · subst e; simp [hls, hilt]
      · rw [if_neg e, if_neg (Ne.symm e)]
    have hl' : ∀ k, k < ip → ((listed.setIfInBounds i' true).getD k true = false ↔ k ∈ (A ++ B).map (·.1)) := by
      intro k hk
      rw [hgd k true (by omega)]
      by_cases e : k = i'
      · subst e
        simp only [if_true, Bool.true_eq_false, List.mem_map, false_iff, not_exists, not_and]
        exact fun p hp e => hni p hp e
      · rw [if_neg e, hl k hk]
        simp only [List.map_append, List.map_cons, List.mem_append, List.mem_cons]
        constructor
        · rintro (h | h | h)
          · exact .inl h
          · exact absurd h e
          · exact .inr h
        · rintro (h | h)
          · exact .inl h
          · exact .inr (.inr h)
    have hlp' : (listed.setIfInBounds i' true).getD ip true = false := by
      rw [hgd ip true hips, if_neg (by omega)]; exact hlp
    have hcl' : ∀ k, k < ops.size → (listed.setIfInBounds i' true).getD k true = true → ∀ j, ((Region.before ops).getD k 0).testBit j = true → (listed.setIfInBounds i' true).getD j false = true := by
      intro k hk hkt j hj
      have hmono : ∀ j, listed.getD j false = true → (listed.setIfInBounds i' true).getD j false = true := by
        intro j hj
        rcases Nat.lt_or_ge j ops.size with h | h
        · rw [hgd j false h]; split
          · rfl
          · exact hj
        · rw [Array.getD_eq_getD_getElem?, Array.getElem?_eq_none (by rw [hls]; exact h)] at hj
          cases hj
      refine hmono j ?_
      rw [hgd k true hk] at hkt
      by_cases e : k = i'
      · subst e
        obtain ⟨o', ho', e, he, hbi, hor⟩ := before_spec ops k j hj
        rw [ho] at ho'; cases ho'
        have hel := hrd o ho e he hbi
        rcases hor with h | h
        · rw [← h]; exact hel
        · have hlt := hafter k o ho e he hbi
          have hsz : e.on < listed.size := by rw [hls]; omega
          refine hcl e.on (by omega) ?_ j h
          simp only [Array.getD_eq_getD_getElem?, Array.getElem?_eq_getElem hsz, Option.getD_some] at hel ⊢
          exact hel
      · rw [if_neg e] at hkt
        exact hcl k hk hkt j hj
    unfold wpOpIn
    rw [ho]
    simp only
    have hf1' : ∀ {ρ' : Nat → Loc}, (∀ k, k ≠ i' → k < ops.size → listed.getD k true = false → ∀ q, nx + 64 * k ≤ q → q < nx + 64 * k + 64 → ρ' q = .unborn) → ∀ k, k < ops.size → (listed.setIfInBounds i' true).getD k true = false → ∀ q, nx + 64 * k ≤ q → q < nx + 64 * k + 64 → ρ' q = .unborn := by
      intro ρ' hρ k hk hkf
      have hki : k ≠ i' := by
        rintro rfl
        rw [hgd k true hk, if_pos rfl] at hkf; cases hkf
      rw [hgd k true hk, if_neg hki] at hkf
      exact hρ k hki hk hkf
    cases htr2 with
    | skip ho2 hg h =>
      rw [ho] at ho2; cases ho2
      rw [guard_spec hs hg, if_neg (by simp)]
      refine ⟨fun _ _ => trivial, ?_⟩
      exact ih _ (A ++ B) _ _ t' m2 _ Im ρ _ w hrlen hdrem h hgp (adel_localp hdp hmp hm2) htk (fun r => (upR_look hm2 _ r).trans (hmpk r)) (fun p hp => hq p (hsub p hp)) (fun p hp => hlt p (hsub p hp)) hpw' hls' hl' hlp' hcl' (hs.skip o.dst) (hf1' (fun k _ hk hkf => hf1 k hk hkf)) hf2
    | op ho2 hg hd h =>
      rw [ho] at ho2; cases ho2
      rw [guard_spec hs hg, if_pos rfl]
      refine op_sound hD hd hs.rs hs.tm (hf1 i' hilt hnl) (fun v w' Im' ρ' hE hv => ?_)
      exact ih _ (A ++ B) _ _ t' m2 _ Im' ρ' _ w' hrlen hdrem h hgp (adel_localp hdp hmp hm2) htk (fun r => (upR_look hm2 _ r).trans (hmpk r)) (fun p hp => hq p (hsub p hp)) (fun p hp => hlt p (hsub p hp)) hpw' hls' hl' hlp' hcl' (hs.step hE (by omega) o.dst hv)
        (hf1' (fun k hki hk hkf q h1 h2 => hE.born q (hf1 k hk hkf q h1 h2) (by omega))) (fun q hq => hE.born q (hf2 q hq) (by omega))
end Go.Proofs.YtfogafinohfpfaaGreatDoorV
