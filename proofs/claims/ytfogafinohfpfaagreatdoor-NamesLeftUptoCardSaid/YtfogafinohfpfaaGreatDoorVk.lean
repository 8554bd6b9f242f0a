/- Calls of other functions. -/
import Derived.Test.YtfogafinohfpfaaGreatDoorVjp
import Derived.CallsIn
namespace Go.Proofs.YtfogafinohfpfaaGreatDoorV
open Go.RowKit
set_option linter.unusedVariables false
set_option linter.unusedSimpArgs false

variable {P : Program} {w : World} {Im : Nat → Prop} {ρ : Nat → Loc} {m : Rows}

/-! ### What is lent -/
theorem own_IR {r e sz t} {xs : List (El t)} {v : Value} {Im' : Nat → Prop} (hr : RS w Im ρ m) (hl : look m r = some ⟨e, sz, .list t xs⟩) (hI : ∀ b, Im b → Im' b) (hb : ∀ g n q, ρ r = .blk g n q → Im' g) {off len : Nat} {A : Option Addr} {c : Nat}
    (hle : off + len ≤ xs.length) (hlc : len ≤ c) (hA : 0 < len → ∃ g n q, ρ r = .blk g n q ∧ A = some ⟨g, off * sz, none⟩) (hv : v = .slice A len c) : IR w Im' (.list t) ((xs.drop off).take len) [v] := by
  subst hv
  have hylen : ((xs.drop off).take len).length = len := by simp; omega
  refine ⟨A, c, by rw [hylen], by rw [hylen]; exact hlc, fun hne => ?_⟩
  have hpos : 0 < len := by
    rcases Nat.eq_zero_or_pos len with h | h
    · subst h; simp at hne
    · exact h
  obtain ⟨g, n, q, hg, rfl⟩ := hA hpos
  obtain ⟨hp, hokc, hbk⟩ := hr.row _ _ hl
  rw [hg] at hbk
  obtain ⟨cur, fr, hh, hnf, hcn, hn, hm, hs, hvr⟩ := hbk
  simp only [Row.okc] at hokc
  subst hokc
  simp only [RC.flat] at hvr
  simp only [Row.count] at hcn
  refine ⟨_, rfl, hb _ _ _ hg, rfl, fun i hi => ?_⟩
  rw [hylen] at hi
  have hii : off + i < xs.length := by omega
  have h1 : VRs w Im ρ (enc t xs[off + i]) (((cur.toList.take (n * csz t)).drop ((off + i) * csz t)).take (csz t)) := by
    have := flatMap_at t xs (off + i) hii
    rw [List.getD_eq_getElem?_getD, List.getElem?_eq_getElem hii, Option.getD_some] at this
    rw [← this]
    exact VRs_take (VRs_drop hvr _) _
  refine ⟨((cur.toList.take (n * csz t)).drop ((off + i) * csz t)).take (csz t), ?_, fun j u hj => ?_⟩
  · have e : ((xs.drop off).take len)[i]'(by rw [hylen]; exact hi) = xs[off + i] := by simp
    rw [e]
    exact IR_mono (fun _ _ => rfl) hI (enc_VRs.1 h1)
  · rw [addr_add, cell_of_row w g _ cur _ fr hh]
    rw [List.getElem?_take] at hj
    split at hj
    · rw [List.getElem?_drop, List.getElem?_take] at hj
      split at hj
      · rw [← Array.getElem?_toList, ← hj]
        congr 1
        rw [Nat.add_mul]; omega
      · cases hj
    · cases hj

theorem lentL_ok {f : AV → Option (AV × List Nat)} {Im' : Nat → Prop} (hf : ∀ x y rd v, f x = some (y, rd) → VR w Im ρ x v → (∀ r ∈ rd, ∀ g n q, ρ r = .blk g n q → Im' g) → VR w Im' ρ y v) :
    ∀ (l l' : List AV) (rd : List Nat) (vs : List Value), lentL f l = some (l', rd) → VRs w Im ρ l vs → (∀ r ∈ rd, ∀ g n q, ρ r = .blk g n q → Im' g) → VRs w Im' ρ l' vs
  | [], l', rd, vs, h, hv, _ => by
    simp only [lentL, Option.some.injEq, Prod.mk.injEq] at h
    obtain ⟨rfl, rfl⟩ := h
    simp only [VRs] at hv; subst hv; simp [VRs]
  | x :: l, l', rd, vs, h, hv, hi => by
    simp only [lentL] at h
    split at h
    · rename_i y a l1 b hx hl
      simp only [Option.some.injEq, Prod.mk.injEq] at h
      obtain ⟨rfl, rfl⟩ := h
      obtain ⟨v, r, rfl, h1, h2⟩ := VRs_cons.1 hv
      exact VRs_cons.2 ⟨v, r, rfl, hf _ _ _ _ hx h1 (fun r hr => hi r (List.mem_append.2 (.inl hr))), lentL_ok hf l _ _ r hl h2 (fun r hr => hi r (List.mem_append.2 (.inr hr)))⟩
    · cases h

theorem lent_ok {Im' : Nat → Prop} (hr : RS w Im ρ m) (hI : ∀ b, Im b → Im' b) : ∀ (n : Nat) (x y : AV) (rd : List Nat) (v : Value), AV.lent P m n x = some (y, rd) → VR w Im ρ x v →
    (∀ r ∈ rd, ∀ g n q, ρ r = .blk g n q → Im' g) → VR w Im' ρ y v
  | 0, x, y, rd, v, h, hv, _ => by simp [AV.lent] at h
  | n + 1, x, y, rd, v, h, hv, hb => by
    have mono := fun (x : AV) (v : Value) (h : VR w Im ρ x v) => VR_mono (w' := w) (Im' := Im') (fun _ _ => rfl) hI (Ext.refl ρ) x v h
    have ih := lentL_ok (w := w) (Im := Im) (ρ := ρ) (Im' := Im') (f := AV.lent P m n) (fun x y rd v h hv hb => lent_ok hr hI n x y rd v h hv hb)
    cases x <;> simp only [AV.lent] at h
    case dead => cases h
    case int => cases h; exact mono _ _ hv
    case bool => cases h; exact mono _ _ hv
    case str => cases h; exact mono _ _ hv
    case nilp => cases h; exact mono _ _ hv
    case icell => cases h; exact mono _ _ hv
    case imm => cases h; exact mono _ _ hv
    case nili => cases h; exact mono _ _ hv
    case nilf => cases h; exact mono _ _ hv
    case nilm => cases h; exact mono _ _ hv
    case iface => cases h
    case oref => cases h
    case nils e =>
      split at h
      · simp only [Option.some.injEq, Prod.mk.injEq] at h
        obtain ⟨rfl, rfl⟩ := h
        obtain ⟨A, rfl⟩ := hv
        exact ⟨A, 0, rfl, Nat.le_refl _, fun hne => absurd rfl hne⟩
      · cases h
    case agg l =>
      split at h
      · rename_i l' rd' hl
        simp only [Option.some.injEq, Prod.mk.injEq] at h
        obtain ⟨rfl, rfl⟩ := h
        obtain ⟨cs, rfl, hv⟩ := hv
        exact ⟨cs, rfl, ih _ _ _ _ hl hv hb⟩
      · cases h
    case tup l =>
      split at h
      · rename_i l' rd' hl
        simp only [Option.some.injEq, Prod.mk.injEq] at h
        obtain ⟨rfl, rfl⟩ := h
        obtain ⟨cs, rfl, hv⟩ := hv
        exact ⟨cs, rfl, ih _ _ _ _ hl hv hb⟩
      · cases h
    case fn f l =>
      split at h
      · rename_i l' rd' hl
        simp only [Option.some.injEq, Prod.mk.injEq] at h
        obtain ⟨rfl, rfl⟩ := h
        obtain ⟨cs, rfl, hv⟩ := hv
        exact ⟨cs, rfl, ih _ _ _ _ hl hv hb⟩
      · cases h
    case own r sz =>
      split at h
      · rename_i e sz' t xs hl
        simp only [Option.some.injEq, Prod.mk.injEq] at h
        obtain ⟨rfl, rfl⟩ := h
        rcases (hr.row _ _ hl).count with ⟨g, cap, hg⟩ | ⟨hvv, h0⟩
        · obtain ⟨_, _, hbk⟩ := hr.row _ _ hl
          rw [hg] at hbk
          have hn : xs.length ≤ cap := BOK.le hbk
          simp only [VR, hg] at hv
          have := own_IR (off := 0) (len := xs.length) (c := cap) (A := some ⟨g, 0, none⟩) hr hl hI (hb r (by simp)) (by simp) hn (fun _ => ⟨g, _, cap, hg, by simp⟩) hv
          simpa [VR] using this
        · simp only [VR, hvv] at hv
          obtain ⟨A, rfl⟩ := hv
          simp only [Row.count] at h0
          have : xs = [] := List.eq_nil_of_length_eq_zero h0
          subst this
          exact ⟨A, 0, rfl, Nat.le_refl _, fun hne => absurd rfl hne⟩
      · cases h
    case sl r sz off len =>
      split at h
      · rename_i e sz' t xs hl
        split at h
        · rename_i hs
          subst hs
          simp only [Option.some.injEq, Prod.mk.injEq] at h
          obtain ⟨rfl, rfl⟩ := h
          rcases (hr.row _ _ hl).count with ⟨g, cap, hg⟩ | ⟨hvv, h0⟩
          · simp only [VR, hg] at hv
            obtain ⟨hle, A, c, hv, hlc, hA⟩ := hv
            exact own_IR hr hl hI (hb r (by simp)) hle hlc (fun hp => ⟨g, _, cap, hg, hA hp⟩) hv
          · simp only [VR, hvv] at hv
            obtain ⟨rfl, rfl, A, rfl⟩ := hv
            simp only [List.take_zero]
            exact ⟨A, 0, rfl, Nat.le_refl _, fun hne => absurd rfl hne⟩
        · cases h
      · cases h
    case ptr r i sz j =>
      split at h
      · rename_i row hl
        split at h
        · rename_i hs
          subst hs
          split at h
          · rename_i l' rd' hll
            simp only [Option.some.injEq, Prod.mk.injEq] at h
            obtain ⟨rfl, rfl⟩ := h
            obtain ⟨g, n', cap, hg, rfl, hi⟩ := ptr_at hr hl hv
            obtain ⟨hp, hokc, hbk⟩ := hr.row _ _ hl
            rw [hg] at hbk
            obtain ⟨cur, fr, hh, hnf, hcn, hn, hm, hs, hvr⟩ := BOK.cells hbk (.inl (by omega))
            obtain ⟨k, hk⟩ := Row.at_drop (j := j) hokc (by rw [hcn]; exact hi)
            have h1 : VRs w Im ρ ((row.at i).drop j) (((cur.toList.take (n' * row.sz)).drop (i * row.sz + j)).take k) := by
              rw [hk]; exact VRs_take (VRs_drop hvr _) _
            have h2 := ih _ _ _ _ hll h1 (fun r hr => hb r (by simp [hr]))
            refine ⟨_, _, rfl, hb r (by simp) _ _ _ hg, rfl, VRs_mono (fun _ _ => rfl) (fun _ h => h) (fun _ => .inr (.inl rfl)) _ _ h2, fun q u hq => ?_⟩
            rw [addr_add, cell_of_row w g _ cur _ fr hh]
            rw [List.getElem?_take] at hq
            split at hq
            · rw [List.getElem?_drop, List.getElem?_take] at hq
              split at hq
              · rw [← Array.getElem?_toList, ← hq]
              · cases hq
            · cases hq
          · cases h
        · cases h
      · cases h

theorem lendArgs_ok {Im' : Nat → Prop} (hr : RS w Im ρ m) (hI : ∀ b, Im b → Im' b) : ∀ (bs : List Bool) (avs as1 : List AV) (hs bn : List Nat) (vs : List Value), lendArgs P m bs avs = some (as1, hs, bn) → VRs w Im ρ avs vs →
    (∀ r ∈ bn, ∀ g n q, ρ r = .blk g n q → Im' g) → VRs w Im' ρ as1 vs
  | bs, [], as1, hs, bn, vs, h, hv, _ => by
    have : as1 = [] := by
      cases bs <;> simp only [lendArgs, Option.some.injEq, Prod.mk.injEq] at h <;> exact h.1.symm
    subst this
    simp only [VRs] at hv; subst hv; simp [VRs]
  | b :: bs, x :: l, as1, hs, bn, vs, h, hv, hb => by
    obtain ⟨v, r, rfl, h1, h2⟩ := VRs_cons.1 hv
    simp only [lendArgs] at h
    split at h
    · rename_i l' hs' rd hl
      split at h
      · simp only [Option.some.injEq, Prod.mk.injEq] at h
        obtain ⟨rfl, rfl, rfl⟩ := h
        exact VRs_cons.2 ⟨v, r, rfl, VR_mono (fun _ _ => rfl) hI (Ext.refl _) _ _ h1, lendArgs_ok hr hI bs l _ _ _ r hl h2 hb⟩
      · split at h
        · rename_i y a hy
          simp only [Option.some.injEq, Prod.mk.injEq] at h
          obtain ⟨rfl, rfl, rfl⟩ := h
          exact VRs_cons.2 ⟨v, r, rfl, lent_ok hr hI _ _ _ _ _ hy h1 (fun r hr => hb r (List.mem_append.2 (.inl hr))), lendArgs_ok hr hI bs l _ _ _ r hl h2 (fun r hr => hb r (List.mem_append.2 (.inr hr)))⟩
        · cases h
    · cases h
  | [], x :: l, as1, hs, bn, vs, h, hv, hb => by
    obtain ⟨v, r, rfl, h1, h2⟩ := VRs_cons.1 hv
    simp only [lendArgs] at h
    split at h
    · rename_i l' hs' rd hl
      split at h
      · rename_i y a hy
        simp only [Option.some.injEq, Prod.mk.injEq] at h
        obtain ⟨rfl, rfl, rfl⟩ := h
        exact VRs_cons.2 ⟨v, r, rfl, lent_ok hr hI _ _ _ _ _ hy h1 (fun r hr => hb r (List.mem_append.2 (.inl hr))), lendArgs_ok hr hI [] l _ _ _ r hl h2 (fun r hr => hb r (List.mem_append.2 (.inr hr)))⟩
      · cases h
    · cases h

/-! ### Names -/
theorem idx_spec : ∀ {l : List Nat} {r j : Nat}, idx l r = some j → l[j]? = some r
  | [], r, j, h => by simp [idx] at h
  | x :: l, r, j, h => by
    simp only [idx] at h
    split at h
    · rename_i e; subst e; cases h; rfl
    · cases hi : idx l r with
      | none => simp [hi] at h
      | some k =>
        simp only [hi, Option.map_some, Option.some.injEq] at h
        subst h
        exact idx_spec (l := l) hi

theorem idx_some : ∀ {l : List Nat} {r : Nat}, r ∈ l → ∃ j, idx l r = some j
  | [], r, h => by simp at h
  | x :: l, r, h => by
    simp only [idx]
    by_cases e : x = r
    · exact ⟨0, by rw [if_pos e]⟩
    · rw [if_neg e]
      rcases List.mem_cons.1 h with h | h
      · exact absurd h.symm e
      · obtain ⟨j, hj⟩ := idx_some h
        exact ⟨j + 1, by rw [hj]; rfl⟩

theorem idx_nodup {l : List Nat} (hn : l.Nodup) {r j : Nat} (h : l[j]? = some r) : idx l r = some j := by
  obtain ⟨k, hk⟩ := idx_some (List.mem_of_getElem? h)
  have h2 := idx_spec hk
  obtain ⟨a1, a2⟩ := List.getElem?_eq_some_iff.1 h
  obtain ⟨b1, b2⟩ := List.getElem?_eq_some_iff.1 h2
  have : j = k := (List.getElem_inj hn).1 (a2.trans b2.symm)
  rw [this]; exact hk

theorem reach_ok : ∀ (n : Nat) (q seen l : List Nat), reach m n q seen = some l → (∀ r ∈ seen, (look m r).isSome = true) → seen.Nodup → (∀ r ∈ l, (look m r).isSome = true) ∧ l.Nodup
  | 0, q, seen, l, h, _, _ => by cases q <;> simp [reach] at h
  | n + 1, [], seen, l, h, h1, h2 => by simp only [reach, Option.some.injEq] at h; subst h; exact ⟨h1, h2⟩
  | n + 1, r :: q, seen, l, h, h1, h2 => by
    simp only [reach] at h
    split at h
    · exact reach_ok n q seen l h h1 h2
    · rename_i hc
      split at h
      · rename_i row hl
        refine reach_ok n _ _ l h (fun x hx => ?_) ?_
        · rcases List.mem_append.1 hx with hx | hx
          · exact h1 x hx
          · simp only [List.mem_singleton] at hx; subst hx; simp [hl]
        · rw [List.nodup_append]
          refine ⟨h2, by simp, fun a ha b hb e => ?_⟩
          simp only [List.mem_singleton] at hb
          subst hb; subst e
          exact hc (by simpa using ha)
      · cases h

theorem kindR_lt (m : Rows) (hs : List Nat) (r : Nat) : kindR m hs r = 0 ∨ kindR m hs r = 1 ∨ kindR m hs r = 2 := by
  unfold kindR
  cases hs.contains r
  · simp only [cond_false]
    split
    · exact .inr (.inr rfl)
    · exact .inr (.inl rfl)
    · exact .inl rfl
  · exact .inl rfl
theorem orderR_mem {m : Rows} {hs l : List Nat} {r : Nat} : r ∈ orderR m hs l ↔ r ∈ l := by
  unfold orderR
  constructor
  · intro h
    rcases List.mem_append.1 h with h | h
    · exact (List.mem_filter.1 h).1
    · rcases List.mem_append.1 h with h | h
      · exact (List.mem_filter.1 h).1
      · exact (List.mem_filter.1 (List.mem_reverse.1 h)).1
  · intro h
    rcases kindR_lt m hs r with e | e | e
    · exact List.mem_append.2 (.inl (List.mem_filter.2 ⟨h, by rw [e]; rfl⟩))
    · exact List.mem_append.2 (.inr (List.mem_append.2 (.inl (List.mem_filter.2 ⟨h, by rw [e]; rfl⟩))))
    · exact List.mem_append.2 (.inr (List.mem_append.2 (.inr (List.mem_reverse.2 (List.mem_filter.2 ⟨h, by rw [e]; rfl⟩)))))

theorem reachO_ok {hs l : List Nat} (h : reachO m hs = some l) : (∀ r ∈ l, (look m r).isSome = true) ∧ l.Nodup := by
  unfold reachO at h
  split at h
  · rename_i l0 hl
    cases h
    obtain ⟨h1, h2⟩ := reach_ok _ _ _ _ hl (by simp) (by simp)
    refine ⟨fun r hr => ?_, ?_⟩
    · exact h1 r (orderR_mem.1 hr)
    · unfold orderR
      have key : ∀ i j a, a ∈ l0.filter (fun r => Nat.beq (kindR m hs r) i) → a ∈ l0.filter (fun r => Nat.beq (kindR m hs r) j) → i = j := fun i j a ha hb =>
        (Nat.eq_of_beq_eq_true (List.mem_filter.1 ha).2).symm.trans (Nat.eq_of_beq_eq_true (List.mem_filter.1 hb).2)
      rw [List.nodup_append]
      refine ⟨h2.filter _, ?_, fun a ha b hb e => ?_⟩
      · rw [List.nodup_append]
        refine ⟨h2.filter _, List.pairwise_reverse.2 ((h2.filter _).imp (fun h => h.symm)), fun a ha b hb e => ?_⟩
        subst e
        exact absurd (key 1 2 a ha (List.mem_reverse.1 hb)) (by decide)
      · subst e
        rcases List.mem_append.1 hb with hb | hb
        · exact absurd (key 0 1 a ha hb) (by decide)
        · exact absurd (key 0 2 a ha (List.mem_reverse.1 hb)) (by decide)
  · cases h

theorem renL_append (f : Nat → Option Nat) : ∀ l l' : List AV, AV.renL f (l ++ l') = AV.renL f l ++ AV.renL f l'
  | [], _ => rfl
  | x :: l, l' => by simp [AV.renL, renL_append f l l']

theorem renL_enc (f : Nat → Option Nat) : ∀ (t : Ty) (x : El t), AV.renL f (enc t x) = enc t x
  | .int _, _ => rfl
  | .bool, _ => rfl
  | .str, _ => rfl
  | .list _, _ => rfl
  | .prod a b, p => by simp only [enc, renL_append, renL_enc f a, renL_enc f b]
  | .node, _ => rfl

theorem renL_flat (f : Nat → Option Nat) (t : Ty) : ∀ xs : List (El t), AV.renL f (xs.flatMap (enc t)) = xs.flatMap (enc t)
  | [] => rfl
  | x :: l => by simp only [List.flatMap_cons, renL_append, renL_enc, renL_flat f t l]

theorem renL_len (f : Nat → Option Nat) : ∀ l : List AV, (AV.renL f l).length = l.length
  | [] => rfl
  | x :: l => by simp [AV.renL, renL_len f l]

def Row.ren (f : Nat → Option Nat) (x : Row) : Row := { x with c := x.c.ren f }

theorem ren_flat (f : Nat → Option Nat) (x : Row) : (x.ren f).c.flat = AV.renL f x.c.flat := by
  obtain ⟨e, sz, c⟩ := x
  cases c with
  | cells l => rfl
  | list t xs => exact (renL_flat f t xs).symm
  | _ => rfl

theorem ren_count (f : Nat → Option Nat) (x : Row) : (x.ren f).count = x.count := by
  obtain ⟨e, sz, c⟩ := x
  cases c with
  | cells l => simp [Row.ren, RC.ren, Row.count, renL_len]
  | _ => rfl

theorem ren_obj (f : Nat → Option Nat) (x : Row) : (x.ren f).c.isObj = x.c.isObj := by
  obtain ⟨e, sz, c⟩ := x
  cases c <;> rfl

theorem ren_okc {f : Nat → Option Nat} {x : Row} (h : x.okc) : (x.ren f).okc := by
  have hc := ren_count f x
  obtain ⟨e, sz, c⟩ := x
  cases c with
  | cells l =>
    simp only [Row.okc, Row.ren, RC.ren, renL_len] at *
    rw [hc]; exact h
  | list t xs => exact h
  | _ => trivial

/-- What stays as it is may be more, or less where nothing lies in it. -/
theorem BOK.im {Im' : Nat → Prop} {x : Row} {g n cap : Nat} (h : BOK w Im ρ x g n cap) (hI : (∀ b, Im b → Im' b) ∨ x.c.noImm = true) : BOK w Im' ρ x g n cap := by
  rcases hI with hI | hI
  · exact h.mono (fun _ _ => rfl) hI (Ext.refl _) rfl
  · obtain ⟨e, sz, c⟩ := x
    cases c with
    | cells l =>
      obtain ⟨cur, fr, hh, a1, a2, a3, a4, a5, a6⟩ := h
      exact ⟨cur, fr, hh, a1, a2, a3, a4, a5, VRs_noImm _ _ hI a6⟩
    | list t xs =>
      obtain ⟨cur, fr, hh, a1, a2, a3, a4, a5, a6⟩ := h
      refine ⟨cur, fr, hh, a1, a2, a3, a4, a5, ?_⟩
      simp only [RC.noImm] at hI
      simp only [RC.flat] at a6 ⊢
      generalize (cur.toList.take (n * sz)) = vs at a6 ⊢
      clear a2 a5
      induction xs generalizing vs with
      | nil => exact a6
      | cons a l ih =>
        rw [List.flatMap_cons] at a6 ⊢
        obtain ⟨p1, p2, rfl, h1, h2⟩ := VRs_split a6
        exact VRs_append (enc_VRs.2 (IR_flat hI (enc_VRs.1 h1))) (ih hh p2 h2)
    | loop id st l =>
      obtain ⟨h0, r, hh, a1, a2, a3⟩ := h
      exact ⟨h0, r, hh, a1, a2, VRs_noImm _ _ hI a3⟩
    | map k v xs =>
      simp only [RC.noImm, Bool.and_eq_true] at hI
      obtain ⟨h0, es, cl, hh, a1, a2⟩ := h
      exact ⟨h0, es, cl, hh, a1, MapR_flat hI.1 hI.2 a2⟩
    | siter s pos => exact h

theorem BOK.ren {ρ' : Nat → Loc} {f : Nat → Option Nat} {x : Row} {g n cap : Nat} (h : BOK w Im ρ x g n cap) (hf : ∀ r q, f r = some q → ρ' q = ρ r) : BOK w Im ρ' (x.ren f) g n cap := by
  obtain ⟨e, sz, c⟩ := x
  cases c with
  | cells l =>
    obtain ⟨cur, fr, hh, a1, a2, a3, a4, a5, a6⟩ := h
    exact ⟨cur, fr, hh, a1, by rw [ren_count]; exact a2, a3, a4, a5, by rw [ren_flat]; exact VRs_ren hf _ _ a6⟩
  | list t xs =>
    obtain ⟨cur, fr, hh, a1, a2, a3, a4, a5, a6⟩ := h
    exact ⟨cur, fr, hh, a1, a2, a3, a4, a5, by have := VRs_ren hf _ _ a6; rw [show AV.renL f (RC.list t xs).flat = (RC.list t xs).flat from renL_flat f t xs] at this; exact this⟩
  | loop id st l =>
    obtain ⟨h0, r, hh, a1, a2, a3⟩ := h
    exact ⟨h0, r, hh, a1, a2, VRs_ren hf _ _ a3⟩
  | map k v xs => exact h
  | siter s pos => exact h

/-- A row under another name. -/
theorem RowOK.ren {ρ' : Nat → Loc} {f : Nat → Option Nat} {r q : Nat} {x : Row} {Im' : Nat → Prop} (h : RowOK w Im ρ r x) (hf : ∀ r q, f r = some q → ρ' q = ρ r) (hq : ρ' q = ρ r)
    (hI : (∀ b, Im b → Im' b) ∨ x.c.noImm = true) : RowOK w Im' ρ' q (x.ren f) := by
  obtain ⟨h1, h2, h3⟩ := h
  refine ⟨h1, ren_okc h2, ?_⟩
  rw [hq]
  cases e : ρ r with
  | unborn => rw [e] at h3; exact h3
  | gone => rw [e] at h3; exact h3
  | virt => rw [e] at h3; exact ⟨by rw [ren_count]; exact h3.1, by rw [ren_obj]; exact h3.2⟩
  | blk g n cap =>
    rw [e] at h3
    exact (h3.im hI).ren hf

theorem look_rowsAt (f : Nat → Option Nat) : ∀ (l : List Nat) (i k : Nat), (∀ r ∈ l, (look m r).isSome = true) → look (rowsAt m f i l) k = if i ≤ k ∧ k < i + l.length then ((l[k - i]?).bind (look m)).map (Row.ren f) else none
  | [], i, k, _ => by simp [rowsAt, look]
  | r :: l, i, k, h => by
    obtain ⟨row, hrow⟩ := Option.isSome_iff_exists.1 (h r (by simp))
    have ih := look_rowsAt f l (i + 1) k (fun x hx => h x (by simp [hx]))
    simp only [rowsAt, hrow, look, ih]
    by_cases e : i = k
    · subst e
      rw [if_pos rfl, if_pos ⟨Nat.le_refl _, by simp⟩]
      simp [hrow, Row.ren]
    · rw [if_neg e]
      by_cases c : i + 1 ≤ k ∧ k < i + 1 + l.length
      · rw [if_pos c, if_pos ⟨by omega, by simp only [List.length_cons]; omega⟩]
        have : k - i = (k - (i + 1)) + 1 := by omega
        rw [this]; rfl
      · rw [if_neg c, if_neg (by simp only [List.length_cons]; omega)]

theorem look_dels : ∀ (l : List Nat) (m : Rows) (q : Nat), look (upR m (l.map fun r => (r, none))) q = if q ∈ l then none else look m q
  | [], m, q => by simp [upR]
  | r :: l, m, q => by
    simp only [List.map_cons, upR, look_dels l, look_del]
    by_cases h : q ∈ l
    · simp [h]
    · by_cases e : r = q
      · subst e; simp
      · simp [h, e, Ne.symm e]

/-! ### A call -/
/-- How a call ends. -/
def endOf (pn : Bool) (v : Value) : Ending := match pn with
  | true => .panicked [{ v, recovered := false }]
  | false => .returned v

/-- A function is called, or a round. -/
def Goes (P : Program) (f : FuncId) (vals : List Value) (w : World) (Q : Ending → World → Prop) : Prop := match fnB f with
  | true => Calls P f vals.toArray w Q
  | false => ∃ args l fn tmps assign body, vals = args ++ [.func (.yield l) #[] #[]] ∧ (Instr.yield l args.toArray).run P w = .ok (.round l fn tmps assign body) w ∧ RoundIn Fence.wide 0 P l fn tmps assign body w Q

theorem Goes.mono {P f vals w} {Q Q' : Ending → World → Prop} (h : Goes P f vals w Q) (hq : ∀ e w, Q e w → Q' e w) : Goes P f vals w Q' := by
  unfold Goes at *
  cases hb : fnB f with
  | true => rw [hb] at h; exact Calls.mono h hq
  | false =>
    rw [hb] at h
    obtain ⟨args, l, fn, tmps, assign, body, h1, h2, h3⟩ := h
    exact ⟨args, l, fn, tmps, assign, body, h1, h2, h3.mono hq⟩

/-- What is known of a call: of such arguments and rows come such a result and such rows. -/
def CallOK (P : Program) (f : FuncId) (mm : Nat) (avs : List AV) (m : Rows) (pn : Bool) (res : AV) (m' : Rows) : Prop :=
  ∀ (w : World) (Im : Nat → Prop) (ρ : Nat → Loc) (vals : List Value), RS w Im ρ m → VRs w Im ρ avs vals → (∀ q, m.length ≤ q → ρ q = .unborn) →
    Goes P f vals w fun e w' => ∃ v Im' ρ', e = endOf pn v ∧ RS w' Im' ρ' m' ∧ VR w' Im' ρ' res v ∧ Kp (ownB ρ) w w' ∧ (∀ b, Im b → Im' b) ∧
      (∀ b, Im' b → Im b ∨ w.heap.size ≤ b ∨ ownB ρ b) ∧ (∀ b, ownB ρ' b → w.heap.size ≤ b ∨ ownB ρ b) ∧ (∀ q, q < mm → ρ' q = ρ q ∨ ρ' q = .gone)

/-- A call of it goes into it. -/
def Enters (P : Program) (f : FuncId) : Prop := ∀ (args : Array Value) (w : World), (callFunc f args).run P w = .ok (.enter f args) w

/-- Rows that are the same here and there. -/
def KeptL : List Nat → Rows → Rows → Prop
  | [], _, _ => True
  | q :: l, a, b => look a q = look b q ∧ KeptL l a b

theorem KeptL.at {a b : Rows} {q : Nat} : ∀ {l : List Nat}, KeptL l a b → q ∈ l → look a q = look b q
  | [], _, h => by cases h
  | x :: l, hk, h => by
    rcases List.mem_cons.1 h with rfl | h
    · exact hk.1
    · exact KeptL.at hk.2 h

def DOK (cx : Cx) : Prop := ∀ f avs m c, cx.D f avs m = some c → (fnB f = true → Enters cx.P f) ∧ ∀ y, c.o = some y → CallOK cx.P f c.mm avs m (c.f y).1 (c.f y).2.1 (c.f y).2.2 ∧ KeptL c.keep (c.f y).2.2 m

theorem OR.gete_get {o : OR} {d : Dl} (h : o.get = some d) : o.gete = some (false, d) := by
  cases o with
  | fail => cases h
  | val c d' => cases c <;> cases h; rfl
  | call o f g hh =>
    simp only [OR.get] at h
    simp only [OR.gete]
    cases o with
    | none => cases h
    | some y =>
      simp only [Option.bind_some] at h ⊢
      split at h
      · rename_i d' e; cases h; exact e
      · cases h
  | pan d' => cases h

theorem OR.gete_getp {o : OR} {d : Dl} (h : o.getp = some d) : o.gete = some (true, d) := by
  cases o with
  | fail => cases h
  | val c d' => cases h
  | call o f g hh =>
    simp only [OR.getp] at h
    simp only [OR.gete]
    cases o with
    | none => cases h
    | some y =>
      simp only [Option.bind_some] at h ⊢
      split at h
      · rename_i d' e; cases h; exact e
      · cases h
  | pan d' => cases h; rfl

theorem rowsAt_len {f : Nat → Option Nat} : ∀ (l : List Nat) (i : Nat), (∀ r ∈ l, (look m r).isSome = true) → (rowsAt m f i l).length = l.length
  | [], _, _ => rfl
  | r :: l, i, h => by
    obtain ⟨row, hrow⟩ := Option.isSome_iff_exists.1 (h r (by simp))
    simp only [rowsAt, hrow, List.length_cons, rowsAt_len l (i + 1) (fun x hx => h x (by simp [hx]))]

theorem look_mem : ∀ {m : Rows} {n : Nat} {x : Row}, look m n = some x → n ∈ m.map (·.1)
  | [], _, _, h => by simp [look] at h
  | (k, v) :: l, n, x, h => by
    simp only [look] at h
    by_cases e : k = n
    · simp [e]
    · rw [if_neg e] at h; simp only [List.map_cons, List.mem_cons]; exact .inr (look_mem h)

/-- What lies in the rows that come back. -/
theorem look_back {β : Nat → Option Nat} {m3 : Rows} (hβ : ∀ a b q, β a = some q → β b = some q → a = b) : ∀ (l : Rows) (m : Rows) (q : Nat),
    (∀ n, β n = some q → n ∈ l.map (·.1) → (look m3 n).isSome = true → look (upR m (rowsBack β m3 l)) q = (look m3 n).map (Row.ren β)) ∧
    ((∀ n, β n = some q → n ∈ l.map (·.1) → look m3 n = none) → look (upR m (rowsBack β m3 l)) q = look m q)
  | [], m, q => ⟨fun n _ h => by simp at h, fun _ => rfl⟩
  | (k, v) :: l, m, q => by
    obtain ⟨i1, i2⟩ := look_back hβ l m q
    cases hk : β k with
    | none =>
      have e : rowsBack β m3 ((k, v) :: l) = rowsBack β m3 l := by simp [rowsBack, hk]
      rw [e]
      refine ⟨fun n hn hm hs => ?_, fun h => i2 (fun n hn hm => h n hn (by simp only [List.map_cons, List.mem_cons]; exact .inr hm))⟩
      simp only [List.map_cons, List.mem_cons] at hm
      rcases hm with rfl | hm
      · rw [hk] at hn; cases hn
      · exact i1 n hn hm hs
    | some q0 =>
      cases hl : look m3 k with
      | none =>
        have e : rowsBack β m3 ((k, v) :: l) = rowsBack β m3 l := by simp [rowsBack, hk, hl]
        rw [e]
        refine ⟨fun n hn hm hs => ?_, fun h => i2 (fun n hn hm => h n hn (by simp only [List.map_cons, List.mem_cons]; exact .inr hm))⟩
        simp only [List.map_cons, List.mem_cons] at hm
        rcases hm with rfl | hm
        · rw [hl] at hs; cases hs
        · exact i1 n hn hm hs
      | some row =>
        have e : rowsBack β m3 ((k, v) :: l) = (q0, some (row.ren β)) :: rowsBack β m3 l := by simp [rowsBack, hk, hl, Row.ren]
        rw [e]
        simp only [upR]
        obtain ⟨j1, j2⟩ := look_back hβ l (putR m q0 (row.ren β)) q
        refine ⟨fun n hn hm hs => ?_, fun h => ?_⟩
        · by_cases c : n ∈ l.map (·.1)
          · exact j1 n hn c hs
          · simp only [List.map_cons, List.mem_cons] at hm
            rcases hm with rfl | hm
            · rw [hk] at hn; cases hn
              rw [j2 (fun n' hn' hm' => by rw [hβ _ _ _ hn' hk] at hm'; exact absurd hm' c), look_put, if_pos rfl, hl]; rfl
            · exact absurd hm c
        · have hne : q0 ≠ q := fun e => by
            subst e
            have := h k hk (by simp)
            rw [hl] at this; cases this
          rw [j2 (fun n hn hm => h n hn (by simp only [List.map_cons, List.mem_cons]; exact .inr hm)), look_put, if_neg hne]

theorem back_lt {names : List Nat} {nb n : Nat} (h : n < names.length) : back names nb n = some names[n] := by simp [back, h]
theorem back_ge {names : List Nat} {nb n : Nat} (h : names.length ≤ n) (h2 : n < names.length + 64) : back names nb n = some (nb + (n - names.length)) := by
  simp only [back]; rw [if_neg (by omega), if_pos h2]
theorem back_out {names : List Nat} {nb n : Nat} (h : names.length + 64 ≤ n) : back names nb n = none := by
  simp only [back]; rw [if_neg (by omega), if_neg (by omega)]

theorem call_core {P : Program} {nb mk : Nat} {f : FuncId} {names bn : List Nat} {as1 : List AV} {vals : List Value} {pn : Bool} {res : AV} {rows3 : Rows} (hr : RS w Im ρ m) (hlive : ∀ r ∈ names, (look m r).isSome = true) (hnd : names.Nodup) (hdisj : disj names bn = true)
    (hv : ∀ Im' : Nat → Prop, (∀ b, Im b → Im' b) → (∀ r ∈ bn, ∀ g n q, ρ r = .blk g n q → Im' g) → VRs w Im' ρ as1 vals) (hcall : CallOK P f mk (AV.renL (idx names) as1) (rowsAt m (idx names) 0 names) pn res rows3)
    (hcond : (bn.isEmpty || (res.noImm && rows3.all fun p => p.2.c.noImm)) = true) (hf : ∀ q, nb ≤ q → q < nb + 64 → ρ q = .unborn) :
    Goes P f vals w fun e w' => ∃ v Im' ρ', e = endOf pn v ∧ Eff nb Im ρ w Im' ρ' (upR m ((names.map fun r => (r, none)) ++ rowsBack (back (names.take mk) nb) rows3 rows3)) w' ∧ VR w' Im' ρ' (res.ren (back (names.take mk) nb)) v := by
  generalize hnmd : names.take mk = nm
  have hnmn : nm.Nodup := by rw [← hnmd]; exact hnd.sublist (List.take_sublist _ _)
  have hnms : ∀ x ∈ nm, x ∈ names := by rw [← hnmd]; exact fun x hx => List.mem_of_mem_take hx
  have hnmi : ∀ j q, idx nm q = some j → idx names q = some j ∧ j < mk := by
    intro j q hj
    have h1 := idx_spec hj
    rw [← hnmd, List.getElem?_take] at h1
    split at h1
    · rename_i hlt; exact ⟨idx_nodup hnd h1, hlt⟩
    · cases h1
  -- the callee's own names
  let ρc : Nat → Loc := fun j => if h : j < names.length then ρ names[j] else .unborn
  let bor : Nat → Prop := fun b => ∃ r ∈ bn, ∃ n q, ρ r = .blk b n q
  let Imc : Nat → Prop := fun b => Im b ∨ bor b
  have hρc : ∀ r j, idx names r = some j → ρc j = ρ r := by
    intro r j hj
    have := idx_spec hj
    obtain ⟨h1, h2⟩ := List.getElem?_eq_some_iff.1 this
    simp only [ρc, dif_pos h1, h2]
  have hlook2 : ∀ k, look (rowsAt m (idx names) 0 names) k = if k < names.length then ((names[k]?).bind (look m)).map (Row.ren (idx names)) else none := by
    intro k
    rw [look_rowsAt _ _ _ _ hlive]
    simp
  have hlen2 : (rowsAt m (idx names) 0 names).length = names.length := rowsAt_len _ _ hlive
  have hImc : ∀ b, Im b → Imc b := fun b hb => .inl hb
  have hnob : ∀ j g n q, ρc j = .blk g n q → ¬ bor g := by
    intro j g n q hj ⟨r, hr', n', q', hq⟩
    simp only [ρc] at hj
    split at hj
    · rename_i hlt
      have e := hr.inj _ _ _ _ _ _ _ hj hq
      have : r ∈ names := by rw [← e]; exact List.getElem_mem hlt
      simp only [disj, List.all_eq_true, Bool.not_eq_true', List.contains_eq_mem, decide_eq_false_iff_not] at hdisj
      exact hdisj r this hr'
    · cases hj
  have hownc : ∀ b, ownB ρc b → ownB ρ b ∧ ∃ j, ∃ h : j < names.length, ∃ n q, ρ names[j] = .blk b n q := by
    rintro b ⟨j, n, q, hj⟩
    simp only [ρc] at hj
    split at hj
    · rename_i hlt; exact ⟨⟨_, n, q, hj⟩, j, hlt, n, q, hj⟩
    · cases hj
  have hrs2 : RS w Imc ρc (rowsAt m (idx names) 0 names) := by
    refine ⟨?_, ?_, ?_, ?_, ?_, hr.gd.more hImc⟩
    · intro k x hx
      rw [hlook2] at hx
      split at hx
      · rename_i hk
        rw [List.getElem?_eq_getElem hk] at hx
        simp only [Option.bind_some] at hx
        cases hl : look m names[k] with
        | none => simp [hl] at hx
        | some row =>
          simp only [hl, Option.map_some, Option.some.injEq] at hx
          subst hx
          exact RowOK.ren (hr.row _ _ hl) hρc (by simp only [ρc, dif_pos hk]) (.inl hImc)
      · cases hx
    · intro k hx
      rw [hlook2] at hx
      split at hx
      · rename_i hk
        obtain ⟨row, hrow⟩ := Option.isSome_iff_exists.1 (hlive names[k] (List.getElem_mem hk))
        rw [List.getElem?_eq_getElem hk] at hx
        simp [hrow] at hx
      · rename_i hk
        right
        simp only [ρc, dif_neg hk]
    · intro a b g n q n' q' e1 e2
      simp only [ρc] at e1 e2
      split at e1
      · rename_i h1
        split at e2
        · rename_i h2
          exact (List.getElem_inj hnd).1 (hr.inj _ _ _ _ _ _ _ e1 e2)
        · cases e2
      · cases e1
    · intro a g n q e1
      rintro (h1 | h1)
      · simp only [ρc] at e1
        split at e1
        · exact hr.noim _ _ _ _ e1 h1
        · cases e1
      · exact hnob a g n q e1 h1
    · rintro b (h1 | ⟨r, _, n, q, h1⟩)
      · exact hr.imlt b h1
      · exact hr.lt h1
  have hvals : VRs w Imc ρc (AV.renL (idx names) as1) vals :=
    VRs_ren hρc _ _ (hv Imc hImc (fun r hr' g n q hq => .inr ⟨r, hr', n, q, hq⟩))
  refine (hcall w Imc ρc vals hrs2 hvals (fun q hq => by rw [hlen2] at hq; simp only [ρc]; rw [dif_neg (by omega)])).mono ?_
  rintro e w' ⟨v, Im'', ρ'', rfl, hrs3, hres, hkp, hI1, hI2, hO, hroot⟩
  -- back to our own names
  let Im' : Nat → Prop := fun b => Im'' b ∧ ¬ bor b
  let ρ' : Nat → Loc := fun q => match idx nm q with
    | some j => ρ'' j
    | none => if nb ≤ q ∧ q < nb + 64 then ρ'' (nm.length + (q - nb)) else match idx names q with
      | some _ => .gone
      | none => ρ q
  have hnn0 : ∀ q, nb ≤ q → q < nb + 64 → idx names q = none := by
    intro q h1 h2
    cases hi : idx names q with
    | none => rfl
    | some j =>
      have hm := List.mem_of_getElem? (idx_spec hi)
      obtain ⟨row, hrow⟩ := Option.isSome_iff_exists.1 (hlive q hm)
      have hu := hf q h1 h2
      rcases (hr.row _ _ hrow).count with ⟨g, cap, hg⟩ | ⟨hv', _⟩
      · rw [hu] at hg; cases hg
      · rw [hu] at hv'; cases hv'
  have hnn : ∀ q, nb ≤ q → q < nb + 64 → idx nm q = none := by
    intro q h1 h2
    cases hi : idx nm q with
    | none => rfl
    | some j => have := hnn0 q h1 h2; rw [(hnmi j q hi).1] at this; cases this
  have hβρ : ∀ n q, back nm nb n = some q → ρ' q = ρ'' n := by
    intro n q hb
    rcases Nat.lt_or_ge n nm.length with hn | hn
    · rw [back_lt hn] at hb
      simp only [Option.some.injEq] at hb
      have : idx nm q = some n := idx_nodup hnmn (by rw [List.getElem?_eq_getElem hn, hb])
      simp only [ρ', this]
    · rcases Nat.lt_or_ge n (nm.length + 64) with hn2 | hn2
      · rw [back_ge hn hn2] at hb
        simp only [Option.some.injEq] at hb
        subst hb
        simp only [ρ', hnn _ (by omega : nb ≤ nb + (n - nm.length)) (by omega)]
        rw [if_pos ⟨by omega, by omega⟩]
        congr 1; omega
      · rw [back_out hn2] at hb; cases hb
  have hβi : ∀ a b q, back nm nb a = some q → back nm nb b = some q → a = b := by
    intro a b q ha hb
    rcases Nat.lt_or_ge a nm.length with h1 | h1 <;> rcases Nat.lt_or_ge b nm.length with h2 | h2
    · rw [back_lt h1] at ha; rw [back_lt h2] at hb
      exact (List.getElem_inj hnmn).1 (Option.some.inj (ha.trans hb.symm))
    · exfalso
      rcases Nat.lt_or_ge b (nm.length + 64) with h3 | h3
      · rw [back_lt h1] at ha; rw [back_ge h2 h3] at hb
        simp only [Option.some.injEq] at ha hb
        have := hnn q (by omega) (by omega)
        rw [idx_nodup hnmn (by rw [List.getElem?_eq_getElem h1, ha])] at this; cases this
      · rw [back_out h3] at hb; cases hb
    · exfalso
      rcases Nat.lt_or_ge a (nm.length + 64) with h3 | h3
      · rw [back_lt h2] at hb; rw [back_ge h1 h3] at ha
        simp only [Option.some.injEq] at ha hb
        have := hnn q (by omega) (by omega)
        rw [idx_nodup hnmn (by rw [List.getElem?_eq_getElem h2, hb])] at this; cases this
      · rw [back_out h3] at ha; cases ha
    · rcases Nat.lt_or_ge a (nm.length + 64) with h3 | h3
      · rcases Nat.lt_or_ge b (nm.length + 64) with h4 | h4
        · rw [back_ge h1 h3] at ha; rw [back_ge h2 h4] at hb
          simp only [Option.some.injEq] at ha hb; omega
        · rw [back_out h4] at hb; cases hb
      · rw [back_out h3] at ha; cases ha
  -- which of the callee's names a name of ours is
  have hγ : ∀ q, (∃ n, back nm nb n = some q ∧ ρ' q = ρ'' n) ∨ ((∀ n, back nm nb n ≠ some q) ∧ ρ' q = ρ q ∧ idx names q = none ∧ ¬ (nb ≤ q ∧ q < nb + 64)) ∨ ((∀ n, back nm nb n ≠ some q) ∧ ρ' q = .gone ∧ ∃ j, idx names q = some j) := by
    intro q
    cases hi : idx nm q with
    | some j =>
      obtain ⟨h1, h2⟩ := List.getElem?_eq_some_iff.1 (idx_spec hi)
      have hb : back nm nb j = some q := by rw [back_lt h1, h2]
      exact .inl ⟨j, hb, hβρ _ _ hb⟩
    | none =>
      by_cases hin : nb ≤ q ∧ q < nb + 64
      · have hb : back nm nb (nm.length + (q - nb)) = some q := by rw [back_ge (by omega) (by omega)]; congr 1; omega
        exact .inl ⟨_, hb, hβρ _ _ hb⟩
      · have hno : ∀ n, back nm nb n ≠ some q := by
          intro n hb
          rcases Nat.lt_or_ge n nm.length with h1 | h1
          · rw [back_lt h1] at hb
            simp only [Option.some.injEq] at hb
            rw [idx_nodup hnmn (by rw [List.getElem?_eq_getElem h1, hb])] at hi; cases hi
          · rcases Nat.lt_or_ge n (nm.length + 64) with h2 | h2
            · rw [back_ge h1 h2] at hb
              simp only [Option.some.injEq] at hb
              exact hin ⟨by omega, by omega⟩
            · rw [back_out h2] at hb; cases hb
        cases hi2 : idx names q with
        | none => exact .inr (.inl ⟨hno, by simp only [ρ', hi, if_neg hin, hi2], rfl, hin⟩)
        | some j => exact .inr (.inr ⟨hno, by simp only [ρ', hi, if_neg hin, hi2], j, rfl⟩)
  have hlook' : ∀ q, (∀ n, back nm nb n = some q → look (upR m ((names.map fun r => (r, none)) ++ rowsBack (back nm nb) rows3 rows3)) q = (look rows3 n).map (Row.ren (back nm nb))) ∧
      ((∀ n, back nm nb n ≠ some q) → look (upR m ((names.map fun r => (r, none)) ++ rowsBack (back nm nb) rows3 rows3)) q = if q ∈ names then none else look m q) := by
    intro q
    rw [upR_append]
    obtain ⟨l1, l2⟩ := look_back (m3 := rows3) hβi rows3 (upR m (names.map fun r => (r, none))) q
    constructor
    · intro n hb
      cases hl : look rows3 n with
      | some row => rw [l1 n hb (look_mem hl) (by simp [hl]), hl]
      | none =>
        rw [l2 (fun n' hb' _ => by rw [hβi _ _ _ hb' hb]; exact hl), look_dels]
        split
        · rfl
        · rename_i hnmm
          rcases Nat.lt_or_ge n nm.length with h1 | h1
          · rw [back_lt h1] at hb
            simp only [Option.some.injEq] at hb
            exact absurd (hnms q (by rw [← hb]; exact List.getElem_mem h1)) hnmm
          · rcases Nat.lt_or_ge n (nm.length + 64) with h2 | h2
            · rw [back_ge h1 h2] at hb
              simp only [Option.some.injEq] at hb
              have hu := hf q (by omega) (by omega)
              cases hlm : look m q with
              | none => rfl
              | some row =>
                rcases (hr.row _ _ hlm).count with ⟨g', cap, hg'⟩ | ⟨hv', _⟩
                · rw [hu] at hg'; cases hg'
                · rw [hu] at hv'; cases hv'
            · rw [back_out h2] at hb; cases hb
    · intro hno
      rw [l2 (fun n hb _ => absurd hb (hno n)), look_dels]
  have hin0 : ∀ q, idx names q = none → q ∉ names := by
    intro q hi hm
    obtain ⟨j, hj⟩ := idx_some hm
    rw [hi] at hj; cases hj
  have hin1 : ∀ q j, idx names q = some j → q ∈ names := fun q j hj => List.mem_of_getElem? (idx_spec hj)
  have hkp' : Kp (ownB ρ) w w' := ⟨hkp.os, hkp.tape, hkp.output, hkp.size, fun b hb hn => hkp.blk b hb (fun h => hn (hownc b h).1)⟩
  have hE : Ext ρ ρ' := by
    intro q
    cases hi : idx nm q with
    | some j =>
      obtain ⟨hi2, hjk⟩ := hnmi j q hi
      have e1 : ρ' q = ρ'' j := by simp only [ρ', hi]
      rcases hroot j hjk with e2 | e2
      · left; rw [e1, e2]; exact hρc q j hi2
      · right; left; rw [e1, e2]
    | none =>
      by_cases hin : nb ≤ q ∧ q < nb + 64
      · exact .inr (.inr (hf q hin.1 hin.2))
      · cases hi2 : idx names q with
        | none => left; simp only [ρ', hi, if_neg hin, hi2]
        | some j => right; left; simp only [ρ', hi, if_neg hin, hi2]
  have hImI : ∀ b, Im b → Im' b := fun b hb => ⟨hI1 b (.inl hb), fun ⟨r, _, n, q, hq⟩ => hr.noim _ _ _ _ hq hb⟩
  have hsub : ∀ b, Im' b → Im b ∨ w.heap.size ≤ b ∨ ownB ρ b := by
    rintro b ⟨h1, h2⟩
    rcases hI2 b h1 with (h3 | h3) | h3 | h3
    · exact .inl h3
    · exact absurd h3 h2
    · exact .inr (.inl h3)
    · exact .inr (.inr (hownc b h3).1)
  -- what is told of values and rows behind the call, among our own names
  have toV : ∀ x v, VR w' Im'' ρ'' x v → (bn.isEmpty = true ∨ x.noImm = true) → VR w' Im' ρ' (x.ren (back nm nb)) v := by
    intro x v hx hc
    refine VR_ren hβρ _ _ ?_
    rcases hc with hc | hc
    · have hb0 : bn = [] := by simpa using hc
      exact VR_mono (fun _ _ => rfl) (fun b hb => ⟨hb, fun ⟨r, hr', _⟩ => by rw [hb0] at hr'; cases hr'⟩) (Ext.refl _) _ _ hx
    · exact VR_noImm _ _ hc hx
  have toVs : ∀ (x : Row), (bn.isEmpty = true ∨ x.c.noImm = true) → (∀ b, Im'' b → Im' b) ∨ x.c.noImm = true := by
    intro x hc
    rcases hc with hc | hc
    · have hb0 : bn = [] := by simpa using hc
      exact .inl (fun b hb => ⟨hb, fun ⟨r, hr', _⟩ => by rw [hb0] at hr'; cases hr'⟩)
    · exact .inr hc
  have hcond' : bn.isEmpty = true ∨ (res.noImm = true ∧ ∀ p ∈ rows3, p.2.c.noImm = true) := by
    simp only [Bool.or_eq_true, Bool.and_eq_true, List.all_eq_true] at hcond
    rcases hcond with h | h
    · exact .inl h
    · exact .inr ⟨h.1, h.2⟩
  have look_memp : ∀ {mm : Rows} {n : Nat} {x : Row}, look mm n = some x → (n, x) ∈ mm := by
    intro mm n x h
    induction mm with
    | nil => simp [look] at h
    | cons p l ih =>
      obtain ⟨k, v'⟩ := p
      simp only [look] at h
      by_cases e : k = n
      · subst e; rw [if_pos rfl] at h; cases h; simp
      · rw [if_neg e] at h; exact List.mem_cons_of_mem _ (ih h)
  refine ⟨v, Im', ρ', rfl, ⟨⟨?_, ?_, ?_, ?_, ?_, ?_⟩, hkp', hE, hImI, hsub, ?_, ?_⟩, ?_⟩
  · -- rows
    intro q x hx
    rcases hγ q with ⟨n, hb, hn⟩ | ⟨hno, hρq, hi, _⟩ | ⟨hno, hρq, j, hj⟩
    case inr.inr => rw [(hlook' q).2 hno, if_pos (hin1 q j hj)] at hx; cases hx
    · rw [(hlook' q).1 n hb] at hx
      cases hl : look rows3 n with
      | none => rw [hl] at hx; cases hx
      | some row =>
        rw [hl] at hx
        simp only [Option.map_some, Option.some.injEq] at hx
        subst hx
        exact RowOK.ren (hrs3.row _ _ hl) hβρ hn (toVs row (hcond'.imp id (fun h => h.2 _ (look_memp hl))))
    · rw [(hlook' q).2 hno, if_neg (hin0 q hi)] at hx
      have hro := hr.row _ _ hx
      obtain ⟨p1, p2, p3⟩ := hro
      refine ⟨p1, p2, ?_⟩
      rw [hρq]
      cases hρ : ρ q with
      | unborn => rw [hρ] at p3; exact p3
      | gone => rw [hρ] at p3; exact p3
      | virt => rw [hρ] at p3; exact p3
      | blk g' n' cap =>
        rw [hρ] at p3
        have hgs : w'.heap[g']? = w.heap[g']? := by
          refine hkp.blk g' (hr.lt hρ) (fun ho => ?_)
          obtain ⟨_, j, hj, n1, q1, e1⟩ := hownc g' ho
          have e := hr.inj _ _ _ _ _ _ _ e1 hρ
          rw [idx_nodup hnd (by rw [List.getElem?_eq_getElem hj, e])] at hi; cases hi
        exact p3.mono (fun b hb => hr.im_same hkp' b hb) hImI hE hgs
  · intro q hx
    rcases hγ q with ⟨n, hb, hn⟩ | ⟨hno, hρq, hi, _⟩ | ⟨hno, hρq, j, hj⟩
    · rw [(hlook' q).1 n hb] at hx
      cases hl : look rows3 n with
      | none => rw [hn]; exact hrs3.gone n hl
      | some row => rw [hl] at hx; cases hx
    · rw [(hlook' q).2 hno, if_neg (hin0 q hi)] at hx
      rw [hρq]; exact hr.gone q hx
    · exact .inl hρq
  · intro a b g' n1 q1 n2 q2 e1 e2
    have cross : ∀ a b n1 q1 n2 q2, ρ' a = .blk g' n1 q1 → ρ' b = .blk g' n2 q2 → (∃ n, back nm nb n = some a ∧ ρ' a = ρ'' n) → (ρ' b = ρ b ∧ idx names b = none) → False := by
      rintro a b n1 q1 n2 q2 e1 e2 ⟨n, hb, hn⟩ ⟨hρb, hi⟩
      rw [hn] at e1; rw [hρb] at e2
      rcases hO g' ⟨n, n1, q1, e1⟩ with h1 | h1
      · have := hr.lt e2; omega
      · obtain ⟨_, j, hj, n3, q3, e3⟩ := hownc g' h1
        have e := hr.inj _ _ _ _ _ _ _ e3 e2
        rw [idx_nodup hnd (by rw [List.getElem?_eq_getElem hj, e])] at hi; cases hi
    have hna3 : ∀ q g n c, ρ' q = .blk g n c → ¬ (ρ' q = .gone) := fun q g n c h1 h2 => by rw [h1] at h2; cases h2
    rcases hγ a with ⟨na, hba, hna⟩ | ⟨hnoa, hρa, hia, _⟩ | ⟨_, hga, _⟩
    case inr.inr => exact absurd hga (hna3 _ _ _ _ e1)
    all_goals rcases hγ b with ⟨nb', hbb, hnb⟩ | ⟨hnob, hρb, hib, _⟩ | ⟨_, hgb, _⟩
    case inl.inr.inr => exact absurd hgb (hna3 _ _ _ _ e2)
    case inr.inl.inr.inr => exact absurd hgb (hna3 _ _ _ _ e2)
    · rw [hna] at e1; rw [hnb] at e2
      have e := hrs3.inj _ _ _ _ _ _ _ e1 e2
      subst e
      exact Option.some.inj (hba.symm.trans hbb)
    · exact (cross a b _ _ _ _ e1 e2 ⟨na, hba, hna⟩ ⟨hρb, hib⟩).elim
    · exact (cross b a _ _ _ _ e2 e1 ⟨nb', hbb, hnb⟩ ⟨hρa, hia⟩).elim
    · rw [hρa] at e1; rw [hρb] at e2
      exact hr.inj _ _ _ _ _ _ _ e1 e2
  · rintro a g' n1 q1 e1 ⟨h1, h2⟩
    rcases hγ a with ⟨na, hba, hna⟩ | ⟨hnoa, hρa, hia, _⟩ | ⟨_, hga, _⟩
    case inr.inr => rw [e1] at hga; cases hga
    · rw [hna] at e1; exact hrs3.noim _ _ _ _ e1 h1
    · rw [hρa] at e1
      rcases hI2 g' h1 with (h3 | h3) | h3 | h3
      · exact hr.noim _ _ _ _ e1 h3
      · exact h2 h3
      · have := hr.lt e1; omega
      · obtain ⟨_, j, hj, n3, q3, e3⟩ := hownc g' h3
        have e := hr.inj _ _ _ _ _ _ _ e3 e1
        rw [idx_nodup hnd (by rw [List.getElem?_eq_getElem hj, e])] at hia; cases hia
  · rintro b ⟨h1, _⟩; exact hrs3.imlt b h1
  · exact ⟨fun b hb => hImI b (hr.gd.im b hb), hrs3.gd.gw⟩
  · rintro b ⟨a, n1, q1, e1⟩
    rcases hγ a with ⟨na, hba, hna⟩ | ⟨hnoa, hρa, hia, _⟩ | ⟨_, hga, _⟩
    case inr.inr => rw [e1] at hga; cases hga
    · rw [hna] at e1
      rcases hO b ⟨na, n1, q1, e1⟩ with h1 | h1
      · exact .inl h1
      · exact .inr (hownc b h1).1
    · rw [hρa] at e1; exact .inr ⟨a, n1, q1, e1⟩
  · intro q e1 e2
    have hlv : q ∈ names → False := by
      intro hm
      obtain ⟨row, hrow⟩ := Option.isSome_iff_exists.1 (hlive q hm)
      rcases (hr.row _ _ hrow).count with ⟨g', cap, hg'⟩ | ⟨hv', _⟩
      · rw [e1] at hg'; cases hg'
      · rw [e1] at hv'; cases hv'
    rcases hγ q with ⟨n, hb, hn⟩ | ⟨hno, hρq, _, _⟩ | ⟨_, _, j, hj⟩
    case inr.inr => exact (hlv (hin1 q j hj)).elim
    · rcases Nat.lt_or_ge n nm.length with h1 | h1
      · rw [back_lt h1] at hb
        simp only [Option.some.injEq] at hb
        obtain ⟨row, hrow⟩ := Option.isSome_iff_exists.1 (hlive q (hnms q (by rw [← hb]; exact List.getElem_mem h1)))
        rcases (hr.row _ _ hrow).count with ⟨g', cap, hg'⟩ | ⟨hv', _⟩
        · rw [e1] at hg'; cases hg'
        · rw [e1] at hv'; cases hv'
      · rcases Nat.lt_or_ge n (nm.length + 64) with h2 | h2
        · rw [back_ge h1 h2] at hb
          simp only [Option.some.injEq] at hb
          exact absurd ⟨by omega, by omega⟩ e2
        · rw [back_out h2] at hb; cases hb
    · rw [hρq]; exact e1
  · exact toV res v hres (hcond'.imp id (fun h => h.1))

/-- Rows that are given up: their blocks stay as they are. -/
theorem give_ok {nb : Nat} (hr : RS w Im ρ m) (bn : List Nat) : Eff nb Im ρ w (fun b => Im b ∨ ∃ r ∈ bn, ∃ n q, ρ r = .blk b n q) (fun q => if q ∈ bn then (if ρ q = .unborn then .unborn else .gone) else ρ q) (upR m (bn.map fun r => (r, none))) w := by
  have hE : Ext ρ (fun q => if q ∈ bn then (if ρ q = .unborn then .unborn else .gone) else ρ q) := by
    intro q
    by_cases h : q ∈ bn
    · by_cases hu : ρ q = .unborn
      · exact .inr (.inr hu)
      · exact .inr (.inl (by simp only [if_pos h, if_neg hu]))
    · exact .inl (by simp only [if_neg h])
  refine ⟨⟨?_, ?_, ?_, ?_, ?_, hr.gd.more fun b hb => .inl hb⟩, Kp.refl _ _, hE, fun _ h => .inl h, ?_, ?_, ?_⟩
  · intro r x hx
    rw [look_dels] at hx
    split at hx
    · cases hx
    · rename_i hn
      obtain ⟨h1, h2, h3⟩ := hr.row r x hx
      refine ⟨h1, h2, ?_⟩
      simp only [if_neg hn]
      cases e : ρ r with
      | unborn => rw [e] at h3; exact h3
      | gone => rw [e] at h3; exact h3
      | virt => rw [e] at h3; exact h3
      | blk g n cap =>
        rw [e] at h3
        exact h3.mono (fun _ _ => rfl) (fun _ h => .inl h) hE rfl
  · intro r hx
    rw [look_dels] at hx
    split at hx
    · rename_i h
      by_cases hu : ρ r = .unborn
      · exact .inr (by simp only [if_pos h, if_pos hu])
      · exact .inl (by simp only [if_pos h, if_neg hu])
    · rename_i h
      simp only [if_neg h]
      exact hr.gone r hx
  · intro r r' g n q n' q' e1 e2
    have h1 : ∀ r n q, (if r ∈ bn then (if ρ r = .unborn then Loc.unborn else .gone) else ρ r) = .blk g n q → ρ r = .blk g n q := by
      intro r n q e
      by_cases h : r ∈ bn
      · rw [if_pos h] at e; split at e <;> cases e
      · rw [if_neg h] at e; exact e
    exact hr.inj _ _ _ _ _ _ _ (h1 _ _ _ e1) (h1 _ _ _ e2)
  · intro r g n q e1 h
    by_cases hb : r ∈ bn
    · simp only [if_pos hb] at e1; split at e1 <;> cases e1
    · simp only [if_neg hb] at e1
      rcases h with h | ⟨r', hr', n', q', e2⟩
      · exact hr.noim _ _ _ _ e1 h
      · exact hb (hr.inj _ _ _ _ _ _ _ e1 e2 ▸ hr')
  · rintro b (h | ⟨r, _, n, q, e⟩)
    · exact hr.imlt b h
    · exact hr.lt e
  · rintro b (h | ⟨r, _, n, q, e⟩)
    · exact .inl h
    · exact .inr (.inr ⟨r, n, q, e⟩)
  · rintro b ⟨r, n, q, e⟩
    by_cases h : r ∈ bn
    · simp only [if_pos h] at e; split at e <;> cases e
    · simp only [if_neg h] at e; exact .inr ⟨r, n, q, e⟩
  · intro q hq _
    by_cases h : q ∈ bn
    · simp only [if_pos h, if_pos hq]
    · simp only [if_neg h]; exact hq

theorem rowsAt_same {m2 : Rows} {f : Nat → Option Nat} : ∀ (l : List Nat) (i : Nat), (∀ r ∈ l, look m2 r = look m r) → rowsAt m2 f i l = rowsAt m f i l
  | [], _, _ => rfl
  | r :: l, i, h => by simp only [rowsAt, h r (by simp), rowsAt_same l (i + 1) (fun q hq => h q (List.mem_cons_of_mem _ hq))]

/-! ### What a call leaves as it is -/
theorem AV.ren_back {f g : Nat → Option Nat} : ∀ (x : AV), (∀ r ∈ x.refs, ∃ i, f r = some i ∧ g i = some r) → (x.ren f).ren g = x := by
  have key : ∀ n : Nat, (∀ x : AV, SizeOf.sizeOf x < n → (∀ r ∈ x.refs, ∃ i, f r = some i ∧ g i = some r) → (x.ren f).ren g = x) ∧ (∀ l : List AV, SizeOf.sizeOf l < n → (∀ r ∈ AV.refsL l, ∃ i, f r = some i ∧ g i = some r) → AV.renL g (AV.renL f l) = l) := by
    intro n
    induction n with
    | zero => exact ⟨fun _ h => by omega, fun _ h => by omega⟩
    | succ n ih =>
      refine ⟨fun x hs h => ?_, fun l hs h => ?_⟩
      · cases x <;> simp only [AV.refs] at h <;> simp only [AV.ren]
        case ptr r i sz j => obtain ⟨q, h1, h2⟩ := h r (by simp); simp only [h1, AV.ren, h2]
        case own r sz => obtain ⟨q, h1, h2⟩ := h r (by simp); simp only [h1, AV.ren, h2]
        case sl r sz o k => obtain ⟨q, h1, h2⟩ := h r (by simp); simp only [h1, AV.ren, h2]
        case oref k r => obtain ⟨q, h1, h2⟩ := h r (by simp); simp only [h1, AV.ren, h2]
        case agg l => rw [ih.2 l (by simp at hs; omega) h]
        case tup l => rw [ih.2 l (by simp at hs; omega) h]
        case fn k l => rw [ih.2 l (by simp at hs; omega) h]
        case iface t v => rw [ih.1 v (by simp at hs; omega) h]
      · cases l with
        | nil => rfl
        | cons x l =>
          simp only [AV.refsL] at h
          simp only [AV.renL]
          rw [ih.1 x (by simp at hs; omega) (fun r hr => h r (List.mem_append.2 (.inl hr))), ih.2 l (by simp at hs; omega) (fun r hr => h r (List.mem_append.2 (.inr hr)))]
  exact fun x => (key (SizeOf.sizeOf x + 1)).1 x (by omega)

theorem renL_back {f g : Nat → Option Nat} : ∀ (l : List AV), (∀ r ∈ AV.refsL l, ∃ i, f r = some i ∧ g i = some r) → AV.renL g (AV.renL f l) = l
  | [], _ => rfl
  | x :: l, h => by
    simp only [AV.refsL] at h
    simp only [AV.renL]
    rw [AV.ren_back x (fun r hr => h r (List.mem_append.2 (.inl hr))), renL_back l (fun r hr => h r (List.mem_append.2 (.inr hr)))]

theorem RC.ren_back {f g : Nat → Option Nat} (c : RC) (h : ∀ r ∈ c.refs, ∃ i, f r = some i ∧ g i = some r) : (c.ren f).ren g = c := by
  cases c <;> simp only [RC.refs] at h <;> simp only [RC.ren]
  case cells l => rw [renL_back l h]
  case loop k st l => rw [renL_back l h]

theorem look_upR : ∀ (u : List (Nat × Option Row)) (m : Rows) (r : Nat), look (upR m u) r = match lastU u r with | some x => x | none => look m r
  | [], m, r => rfl
  | (q, some x) :: u, m, r => by
    simp only [upR, look_upR u, lastU]
    cases lastU u r with
    | some y => rfl
    | none =>
      simp only [look_put]
      by_cases h : q = r
      · subst h; simp
      · simp [h, fun e : r = q => h e.symm]
  | (q, none) :: u, m, r => by
    simp only [upR, look_upR u, lastU]
    cases lastU u r with
    | some y => rfl
    | none =>
      simp only [look_del]
      by_cases h : q = r
      · subst h; simp
      · simp [h, fun e : r = q => h e.symm]

theorem lastU_append : ∀ (a b : List (Nat × Option Row)) (r : Nat), lastU (a ++ b) r = match lastU b r with | some y => some y | none => lastU a r
  | [], b, r => by simp only [List.nil_append]; cases lastU b r <;> rfl
  | (q, x) :: a, b, r => by
    simp only [List.cons_append, lastU, lastU_append a b]
    cases lastU b r <;> rfl

theorem lastU_dels (r : Nat) : ∀ l : List Nat, lastU (l.map fun r => (r, none)) r = if r ∈ l then some none else none
  | [] => by simp [lastU]
  | x :: l => by
    simp only [List.map_cons, lastU, lastU_dels r l]
    by_cases h : r ∈ l
    · simp [h]
    · by_cases e : x = r
      · subst e; simp [h]
      · have e' : ¬ r = x := fun e' => e e'.symm
        simp [h, e, e']

theorem dropK_mem {kq : List Nat} {r : Nat} : ∀ (l : List Nat) (i : Nat), r ∈ dropK kq i l ↔ ∃ j, l[j]? = some r ∧ (i + j) ∉ kq
  | [], i => by simp [dropK]
  | x :: l, i => by
    have ih := dropK_mem (kq := kq) (r := r) l (i + 1)
    have split : (∃ j, (x :: l)[j]? = some r ∧ (i + j) ∉ kq) ↔ (x = r ∧ i ∉ kq) ∨ ∃ j, l[j]? = some r ∧ (i + 1 + j) ∉ kq := by
      constructor
      · rintro ⟨j, h1, h2⟩
        cases j with
        | zero => exact .inl ⟨by simpa using h1, h2⟩
        | succ j => exact .inr ⟨j, by simpa using h1, by rwa [show i + 1 + j = i + (j + 1) by omega]⟩
      · rintro (⟨h1, h2⟩ | ⟨j, h1, h2⟩)
        · exact ⟨0, by simpa using h1, h2⟩
        · exact ⟨j + 1, by simpa using h1, by rwa [show i + (j + 1) = i + 1 + j by omega]⟩
    rw [split]
    unfold dropK
    by_cases h : i ∈ kq
    · rw [show kq.contains i = true by simpa using h]
      simp only [cond_true, ih, h, not_true, and_false, false_or]
    · rw [show kq.contains i = false by simpa using h]
      simp only [cond_false, List.mem_cons, ih, h, not_false_eq_true, and_true]
      constructor
      · rintro (e | e)
        · exact .inl e.symm
        · exact .inr e
      · rintro (e | e)
        · exact .inl e.symm
        · exact .inr e

/-- What is put back is of a row of that name. -/
theorem lastU_back {β : Nat → Option Nat} {R : Rows} {r : Nat} {x : Option Row} : ∀ {l : Rows}, lastU (rowsBack β R l) r = some x → ∃ n, n ∈ l.map (·.1) ∧ β n = some r ∧ ∃ row, look R n = some row ∧ x = some { row with c := row.c.ren β }
  | [], h => by cases h
  | (n, y) :: l, h => by
    simp only [rowsBack] at h
    split at h
    · rename_i q row hq hrow
      simp only [lastU] at h
      cases hl : lastU (rowsBack β R l) r with
      | some z =>
        rw [hl] at h
        simp only [Option.some.injEq] at h
        subst h
        obtain ⟨k, h1, h2⟩ := lastU_back hl
        exact ⟨k, by simp only [List.map_cons, List.mem_cons]; exact .inr h1, h2⟩
      | none =>
        rw [hl] at h
        simp only at h
        split at h
        · rename_i e
          subst e
          cases h
          exact ⟨n, by simp, hq, row, hrow, rfl⟩
        · cases h
    · obtain ⟨k, h1, h2⟩ := lastU_back h
      exact ⟨k, by simp only [List.map_cons, List.mem_cons]; exact .inr h1, h2⟩

theorem lastU_back_some {β : Nat → Option Nat} {R : Rows} {r n : Nat} {row : Row} (hβ : β n = some r) (hR : look R n = some row) : ∀ {l : Rows}, n ∈ l.map (·.1) → ∃ x, lastU (rowsBack β R l) r = some x
  | [], h => by cases h
  | (k, y) :: l, h => by
    simp only [List.map_cons, List.mem_cons] at h
    simp only [rowsBack]
    rcases h with rfl | h
    · rw [hβ, hR]
      simp only [lastU]
      cases lastU (rowsBack β R l) r with
      | some z => exact ⟨z, rfl⟩
      | none => exact ⟨_, by simp only [if_true]; rfl⟩
    · obtain ⟨x, hx⟩ := lastU_back_some hβ hR h
      split
      · simp only [lastU, hx]; exact ⟨x, rfl⟩
      · exact ⟨x, hx⟩

theorem lastU_back_filter {β : Nat → Option Nat} {R : Rows} {r : Nat} {p : Nat → Bool} : ∀ {l : Rows}, (∀ n, n ∈ l.map (·.1) → p n = false → β n ≠ some r) → lastU (rowsBack β R (l.filter fun x => p x.1)) r = lastU (rowsBack β R l) r
  | [], _ => rfl
  | (n, y) :: l, h => by
    have ih := lastU_back_filter (β := β) (R := R) (r := r) (p := p) (l := l) (fun k hk => h k (by simp only [List.map_cons, List.mem_cons]; exact .inr hk))
    simp only [List.filter_cons]
    cases hp : p n with
    | true =>
      simp only [if_true, rowsBack]
      split
      · simp only [lastU, ih]
      · exact ih
    | false =>
      simp only [Bool.false_eq_true, if_false, rowsBack, ih]
      have hn := h n (by simp) hp
      split
      · rename_i q row hq hrow
        simp only [lastU]
        have : q ≠ r := fun e => hn (e ▸ hq)
        cases lastU (rowsBack β R l) r <;> simp [this]
      · rfl

theorem look_key {m : Rows} {r : Nat} {x : Row} (h : look m r = some x) : r ∈ m.map (·.1) := by
  induction m with
  | nil => cases h
  | cons p m ih =>
    obtain ⟨q, y⟩ := p
    simp only [look] at h
    simp only [List.map_cons, List.mem_cons]
    by_cases e : q = r
    · exact .inl e.symm
    · right
      refine ih ?_
      simpa [e] using h

/-- With what a call leaves as it is left out: the same rows. -/
theorem kept_look {nb mk : Nat} {names kp : List Nat} {R : Rows} (hlive : ∀ r ∈ names, (look m r).isSome = true) (hnd : names.Nodup) (hfresh : ∀ r ∈ names, ¬ (nb ≤ r ∧ r < nb + 64)) (hk : KeptL kp R (rowsAt m (idx names) 0 names)) (r : Nat) :
    look (upR m (((dropK (keptQ m names mk kp) 0 names).map fun r => (r, none)) ++ rowsBack (back (names.take mk) nb) R (R.filter fun p => !(keptQ m names mk kp).contains p.1))) r
      = look (upR m ((names.map fun r => (r, none)) ++ rowsBack (back (names.take mk) nb) R R)) r := by
  generalize hkq : keptQ m names mk kp = kq
  have hin : ∀ q ∈ kq, q < mk ∧ ∃ r row, names[q]? = some r ∧ look m r = some row ∧ look R q = some (row.ren (idx names)) ∧ (row.ren (idx names)).c.ren (back (names.take mk) nb) = row.c := by
    intro q hq
    rw [← hkq] at hq
    obtain ⟨h1, h2⟩ := List.mem_filter.1 hq
    simp only [Bool.and_eq_true] at h2
    obtain ⟨hlt, h2⟩ := h2
    have hlt : q < mk := by simpa [Nat.blt_eq] using hlt
    cases hn : names[q]? with
    | none => rw [hn] at h2; cases h2
    | some r =>
      rw [hn] at h2
      simp only at h2
      cases hl : look m r with
      | none => rw [hl] at h2; cases h2
      | some row =>
        rw [hl] at h2
        simp only at h2
        refine ⟨hlt, r, row, rfl, hl, ?_, ?_⟩
        · rw [hk.at h1, look_rowsAt _ _ _ _ hlive]
          obtain ⟨hq1, -⟩ := List.getElem?_eq_some_iff.1 hn
          rw [if_pos (by omega), Nat.sub_zero, hn]
          simp only [Option.bind_some, hl, Option.map_some]
        · show (row.c.ren (idx names)).ren _ = _
          refine RC.ren_back _ (fun x hx => ?_)
          have := List.all_eq_true.1 h2 x hx
          cases hi : idx names x with
          | none => rw [hi] at this; cases this
          | some i =>
            rw [hi] at this
            have hi' : i < mk := by simpa [Nat.blt_eq] using this
            have hx' := idx_spec hi
            obtain ⟨hlt', -⟩ := List.getElem?_eq_some_iff.1 hx'
            refine ⟨i, rfl, ?_⟩
            unfold back
            rw [if_pos (by simp; omega), List.getElem?_take, if_pos hi']
            exact hx'
  have hβ : ∀ n, (back (names.take mk) nb n = some r) → r ∈ names → names[n]? = some r ∧ n < mk := by
    intro n hn hr
    unfold back at hn
    split at hn
    · rename_i hlt
      rw [List.getElem?_take] at hn
      split at hn
      · rename_i h; exact ⟨hn, h⟩
      · cases hn
    · split at hn
      · rename_i h1 h2
        simp only [Option.some.injEq] at hn
        exact absurd ⟨by omega, by omega⟩ (hfresh r hr)
      · cases hn
  rw [look_upR, look_upR, lastU_append, lastU_append, lastU_dels, lastU_dels]
  by_cases hc : ∃ q ∈ kq, names[q]? = some r
  · obtain ⟨q, hq, hqr⟩ := hc
    obtain ⟨hlt, r', row, h1, h2, h3, h4⟩ := hin q hq
    rw [hqr] at h1
    cases h1
    have hrn : r ∈ names := List.mem_of_getElem? hqr
    have huniq : ∀ n, names[n]? = some r → n = q := fun n hn => by
      obtain ⟨a1, a2⟩ := List.getElem?_eq_some_iff.1 hn
      obtain ⟨b1, b2⟩ := List.getElem?_eq_some_iff.1 hqr
      exact (List.getElem_inj hnd).1 (a2.trans b2.symm)
    have hbq : back (names.take mk) nb q = some r := by
      obtain ⟨b1, -⟩ := List.getElem?_eq_some_iff.1 hqr
      unfold back
      rw [if_pos (by simp; omega), List.getElem?_take, if_pos hlt]
      exact hqr
    have e1 : lastU (rowsBack (back (names.take mk) nb) R (R.filter fun p => !kq.contains p.1)) r = none := by
      cases hh : lastU (rowsBack (back (names.take mk) nb) R (R.filter fun p => !kq.contains p.1)) r with
      | none => rfl
      | some x =>
        obtain ⟨n, n1, n2, -⟩ := lastU_back hh
        obtain rfl := huniq n (hβ n n2 hrn).1
        obtain ⟨p, hp, rfl⟩ := List.mem_map.1 n1
        have := (List.mem_filter.1 hp).2
        simp [hq] at this
    have e2 : r ∉ dropK kq 0 names := by
      rw [dropK_mem]
      rintro ⟨j, hj, hnot⟩
      obtain rfl := huniq j hj
      exact hnot (by simpa using hq)
    obtain ⟨x, hx⟩ := lastU_back_some (l := R) hbq h3 (look_key h3)
    rw [e1, if_neg e2, hx]
    obtain ⟨n, n1, n2, row', n3, n4⟩ := lastU_back hx
    obtain rfl := huniq n (hβ n n2 hrn).1
    rw [h3] at n3
    cases n3
    subst n4
    simp only
    rw [h2, h4]
    rfl
  · have e1 : lastU (rowsBack (back (names.take mk) nb) R (R.filter fun p => !kq.contains p.1)) r = lastU (rowsBack (back (names.take mk) nb) R R) r := by
      refine lastU_back_filter (p := fun n => !kq.contains n) (fun n hn hp hb => ?_)
      have hq : n ∈ kq := by simpa using hp
      obtain ⟨hlt, r', row, h1, -, -, -⟩ := hin n hq
      have : back (names.take mk) nb n = some r' := by
        obtain ⟨b1, -⟩ := List.getElem?_eq_some_iff.1 h1
        unfold back
        rw [if_pos (by simp; omega), List.getElem?_take, if_pos hlt]
        exact h1
      rw [this] at hb
      cases hb
      exact hc ⟨n, hq, h1⟩
    have e2 : r ∈ dropK kq 0 names ↔ r ∈ names := by
      rw [dropK_mem]
      constructor
      · rintro ⟨j, hj, -⟩; exact List.mem_of_getElem? hj
      · intro h
        obtain ⟨j, hj⟩ := List.mem_iff_getElem?.1 h
        exact ⟨j, hj, fun h2 => hc ⟨j, by simpa using h2, hj⟩⟩
    rw [e1]
    simp only [e2]

theorem RS.congr {w : World} {Im : Nat → Prop} {ρ : Nat → Loc} {m m' : Rows} (h : RS w Im ρ m) (e : ∀ r, look m' r = look m r) : RS w Im ρ m' :=
  ⟨fun r x hx => h.row r x (by rw [← e]; exact hx), fun r hx => h.gone r (by rw [← e]; exact hx), h.inj, h.noim, h.imlt, h.gd⟩
theorem Eff.congr {nb : Nat} {Im Im' : Nat → Prop} {ρ ρ' : Nat → Loc} {w w' : World} {m m' : Rows} (h : Eff nb Im ρ w Im' ρ' m w') (e : ∀ r, look m' r = look m r) : Eff nb Im ρ w Im' ρ' m' w' :=
  ⟨h.rs.congr e, h.kp, h.ext, h.imI, h.imN, h.own, h.born⟩

theorem opCall_ok {cx : Cx} {nb f avs d vals pn} (hD : DOK cx) (h : (opCall cx m nb f avs).gete = some (pn, d)) (hr : RS w Im ρ m) (hv : VRs w Im ρ avs vals) (hf : ∀ q, nb ≤ q → q < nb + 64 → ρ q = .unborn) :
    (fnB f = true → Enters cx.P f) ∧ Goes cx.P f vals w fun e w' => ∃ v Im' ρ', e = endOf pn v ∧ Eff nb Im ρ w Im' ρ' (upR m d.up) w' ∧ VR w' Im' ρ' d.v v := by
  unfold opCall at h
  split at h
  · rename_i as1 hs bn hlend
    split at h
    · rename_i names hreach
      split at h
      · rename_i hdisj
        split at h
        · rename_i cr hDf
          obtain ⟨mk, kp0, Y, o, g, gg, gh⟩ := cr
          simp only [callO, OR.gete] at h
          cases ho : o with
          | none => rw [ho] at h; cases h
          | some y =>
            rw [ho] at h
            simp only [Option.bind_some] at h
            obtain ⟨hcall, hkeep⟩ := (hD _ _ _ _ hDf).2 y ho
            refine ⟨(hD _ _ _ _ hDf).1, ?_⟩
            obtain ⟨hlive, hnd⟩ := reachO_ok hreach
            have hvl : ∀ Im' : Nat → Prop, (∀ b, Im b → Im' b) → (∀ r ∈ bn, ∀ g n q, ρ r = .blk g n q → Im' g) → VRs w Im' ρ as1 vals :=
              fun Im' h1 h2 => lendArgs_ok hr h1 _ _ _ _ _ _ hlend hv h2
            unfold callD at h
            split at h
            · rename_i hcond
              simp only [Option.some.injEq, Prod.mk.injEq] at h
              obtain ⟨hpn, rfl⟩ := h
              rw [← hpn]
              have hfresh : ∀ r ∈ names, ¬ (nb ≤ r ∧ r < nb + 64) := by
                rintro r hm ⟨h1, h2⟩
                obtain ⟨row, hrow⟩ := Option.isSome_iff_exists.1 (hlive r hm)
                have hu := hf r h1 h2
                rcases (hr.row _ _ hrow).count with ⟨g, cap, hg⟩ | ⟨hv', _⟩
                · rw [hu] at hg; cases hg
                · rw [hu] at hv'; cases hv'
              refine (call_core hr hlive hnd hdisj hvl hcall hcond hf).mono ?_
              rintro e w' ⟨v, Im', ρ', he, hE, hvv⟩
              exact ⟨v, Im', ρ', he, hE.congr (kept_look hlive hnd hfresh hkeep), hvv⟩
            · simp only [Option.some.injEq, Prod.mk.injEq] at h
              obtain ⟨hpn, rfl⟩ := h
              rw [← hpn]
              have hg := give_ok (nb := nb) hr bn
              have hnb : ∀ r ∈ names, r ∉ bn := by
                intro r hrn hrb
                simp only [disj, List.all_eq_true, Bool.not_eq_true', List.contains_eq_mem, decide_eq_false_iff_not] at hdisj
                exact hdisj r hrn hrb
              have hlk : ∀ r ∈ names, look (upR m (bn.map fun r => (r, none))) r = look m r := by
                intro r hrn
                rw [look_dels, if_neg (hnb r hrn)]
              have hv2 : VRs w (fun b => Im b ∨ ∃ r ∈ bn, ∃ n q, ρ r = .blk b n q) (fun q => if q ∈ bn then (if ρ q = .unborn then .unborn else .gone) else ρ q) as1 vals :=
                VRs_mono (fun _ _ => rfl) (fun _ h => h) hg.ext _ _ (hvl _ (fun _ h => .inl h) (fun r hrb g n q e => .inr ⟨r, hrb, n, q, e⟩))
              have hcore := call_core (nb := nb) (bn := []) hg.rs (fun r hrn => by rw [hlk r hrn]; exact hlive r hrn) hnd (by simp [disj]) (fun Im' h1 _ => VRs_mono (fun _ _ => rfl) h1 (Ext.refl _) _ _ hv2)
                (by rw [rowsAt_same names 0 hlk]; exact hcall) (by simp) (fun q h1 h2 => by
                  have := hf q h1 h2
                  by_cases hb : q ∈ bn
                  · simp only [if_pos hb, if_pos this]
                  · simp only [if_neg hb]; exact this)
              refine hcore.mono ?_
              rintro e w' ⟨v, Im', ρ', he, hE, hvv⟩
              refine ⟨v, Im', ρ', he, ?_, hvv⟩
              rw [upR_append]
              exact hg.trans hE
        · cases h
      · cases h
    · cases h
  · cases h
end Go.Proofs.YtfogafinohfpfaaGreatDoorV
