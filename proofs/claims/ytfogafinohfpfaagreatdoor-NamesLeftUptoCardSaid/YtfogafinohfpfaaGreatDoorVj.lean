/- That each operation on abstract values does what the machine's operation does: composite literals, min and max. -/
import Derived.Test.YtfogafinohfpfaaGreatDoorVi
namespace Go.Proofs.YtfogafinohfpfaaGreatDoorV
open Go.RowKit
set_option linter.unusedVariables false
set_option linter.unusedSimpArgs false

variable {P : Program} {w : World} {Im : Nat → Prop} {ρ : Nat → Loc} {m : Rows}

theorem foldl_set : ∀ (l : List Value) (k off : Nat) (cells : Array Value), off + k + l.length ≤ cells.size →
    ((l.zipIdx k).foldl (fun cs (p : Value × Nat) => cs.setIfInBounds (off + p.2) p.1) cells).toList = cells.toList.take (off + k) ++ l ++ cells.toList.drop (off + k + l.length)
  | [], k, off, cells, _ => by simp
  | v :: l, k, off, cells, h => by
    simp only [List.length_cons] at h
    rw [List.zipIdx_cons, List.foldl_cons, foldl_set l (k + 1) off _ (by simp; omega)]
    have e := list_seg_step cells.toList (off + k) v l (by simp; omega)
    simpa [Array.toList_setIfInBounds, Nat.add_assoc] using e

theorem fill_one (v : Value) (off : Nat) (cells : Array Value) (h : off + v.cells.size ≤ cells.size) :
    (v.cells.zipIdx.foldl (fun cs (p : Value × Nat) => cs.setIfInBounds (off + p.2) p.1) cells).toList = cells.toList.take off ++ v.cells.toList ++ cells.toList.drop (off + v.cells.toList.length) := by
  have := foldl_set v.cells.toList 0 off cells (by simpa using h)
  simp only [Nat.add_zero] at this
  rw [← this, ← Array.foldl_toList]
  congr 1
  simp

theorem fill_ok {pl : Nat → Option (Nat × Nat)} {t : TypeId} (hpl : ∀ i off sz ft, place P t i = some (off, sz, ft) → pl i = some (off, sz)) (hr : RS w Im ρ m) {tm : List AV} {a : Act} (ht : VRs w Im ρ tm a.tmps.toList) :
    ∀ (parts : List (Nat × Operand)) (cs cs' : List AV) (vs : Array Value), fillP P m (evO P tm) t cs parts = some cs' → VRs w Im ρ cs vs.toList →
      ∃ vs', Instr.fill pl vs (parts.map fun p => (p.1, a.eval p.2)) = some vs' ∧ VRs w Im ρ cs' vs'.toList
  | [], cs, cs', vs, h, hv => by
    simp only [fillP, Option.some.injEq] at h
    subst h
    exact ⟨vs, rfl, hv⟩
  | (i, x) :: r, cs, cs', vs, h, hv => by
    simp only [fillP] at h
    split at h
    · rename_i off sz ft hp
      split at h
      · rename_i v hx
        split at h
        · rename_i hc
          obtain ⟨hsz, hle, hat, hl⟩ := hc
          have hvx := evO_ok ht hx
          obtain ⟨hvc, hone⟩ := cells_ok hr hvx hat hl
          have hlen : (a.eval x).cells.size = sz := by rw [← Array.length_toList, VRs_len hvc, hsz]
          have hlv : vs.size = cs.length := by rw [← Array.length_toList]; exact VRs_len hv
          have hset := fill_one (a.eval x) off vs (by omega)
          obtain ⟨vs', h1, h2⟩ := fill_ok hpl hr ht r _ cs' _ h (by rw [hset]; exact VRs_splice hv hvc off)
          refine ⟨vs', ?_, h2⟩
          simp only [List.map_cons, Instr.fill, hpl i off sz ft hp]
          rw [if_neg (by simp; omega)]
          exact h1
        · cases h
      · cases h
    · cases h

theorem run_sizes : ∀ (fs : List Field), (fs.all fun f => (P.info? f.type).isSome) = true → (fs.mapM fun f => (do pure (f.offset, ← sizeOf f.type) : Sem (Nat × Nat))).run P w = .ok (fs.map fun f => (f.offset, P.cellsOf f.type)) w
  | [], _ => by simp
  | f :: fs, h => by
    simp only [List.all_cons, Bool.and_eq_true] at h
    have ih := run_sizes fs h.2
    simp only [List.mapM_cons, Sem.run_bind, cellsOf_run' h.1, Result.andThen_ok, Sem.run_pure, ih, List.map_cons]

theorem opBuild_ok {t parts d} {tm : List AV} {a : Act} (h : (opBuild P m t (evO P tm) parts).get = some d) (hr : RS w Im ρ m) (ht : VRs w Im ρ tm a.tmps.toList) :
    Quiet w Im ρ P d (Instr.build t (parts.map fun p => (p.1, a.eval p.2)).toArray) := by
  unfold opBuild at h
  split at h
  · rename_i z hz
    split at h
    · rename_i hc
      obtain ⟨hat, hl, hk⟩ := hc
      split at h
      · rename_i cs hcs
        obtain ⟨_, rfl⟩ := get_val h
        obtain ⟨zv, i, hzrun, hi, hz', hvz, hone⟩ := zero_cells hz hat hr
        refine ⟨rfl, ?_⟩
        unfold fieldsKnown at hk
        split at hk
        · rename_i fs hu
          obtain ⟨vs', h1, h2⟩ := fill_ok (P := P) (pl := fun i => (fs.map fun f => (f.offset, P.cellsOf f.type))[i]?) (t := t) (by
            intro i off sz ft hp
            simp only [place, hu] at hp
            split at hp
            · rename_i f hf
              simp only [Option.some.injEq, Prod.mk.injEq] at hp
              obtain ⟨rfl, rfl, rfl⟩ := hp
              simp [hf]
            · cases hp) hr ht parts z.cells cs zv.cells hcs hvz
          refine ⟨.agg vs', ?_, vs', rfl, h2⟩
          have hm : (fs.mapM fun f => (do pure (f.offset, ← sizeOf f.type) : Sem (Nat × Nat))).run P w = .ok (fs.map fun f => (f.offset, P.cellsOf f.type)) w := by
            rw [Array.mapM_eq_mapM_toList, Sem.run_map, run_sizes _ hk]
            simp only [Result.andThen]
            congr 1
            apply Array.ext'
            simp
          simp only [Instr.build, Sem.run_bind, hzrun, Result.andThen_ok, run_underlying hu, hm, h1, Sem.run_pure]
        · rename_i k e hu
          obtain ⟨vs', h1, h2⟩ := fill_ok (P := P) (pl := fun i => some (i * P.cellsOf e, P.cellsOf e)) (t := t) (by
            intro i off sz ft hp
            simp only [place, hu, Option.some.injEq, Prod.mk.injEq] at hp
            obtain ⟨rfl, rfl, rfl⟩ := hp
            rfl) hr ht parts z.cells cs zv.cells hcs hvz
          refine ⟨.agg vs', ?_, vs', rfl, h2⟩
          simp only [Instr.build, Sem.run_bind, hzrun, Result.andThen_ok, run_underlying hu, cellsOf_run' hk, h1, Sem.run_pure]
        · cases hk
      · cases h
    · cases h
  · cases h

theorem decAll_ok {t : Ty} : ∀ {n : Nat} {l : List AV} {xs : List (El t)} {vs : List Value}, decAll t n l = some xs → VRs w Im ρ l vs → VRs w Im ρ (xs.flatMap (enc t)) vs ∧ xs.length = n
  | 0, l, xs, vs, h, hv => by
    cases l with
    | nil => simp only [decAll, Option.some.injEq] at h; subst h; exact ⟨hv, rfl⟩
    | cons a l => simp [decAll] at h
  | n + 1, l, xs, vs, h, hv => by
    simp only [decAll] at h
    split at h
    · rename_i x r hx
      cases hd : decAll t n r with
      | none => simp [hd] at h
      | some ys =>
        simp only [hd, Option.map_some, Option.some.injEq] at h
        subst h
        obtain ⟨a, b, rfl, h1, h2⟩ := VRs_split (dec_ok hx hv)
        obtain ⟨h3, h4⟩ := decAll_ok hd h2
        exact ⟨by rw [List.flatMap_cons]; exact VRs_append h1 h3, by simp [h4]⟩
    · cases h

theorem rowOf_ok {e sz n : Nat} {l : List AV} {vs : List Value} (hp : 0 < sz) (hl : l.length = n * sz) (hv : VRs w Im ρ l vs) :
    (rowOf P e sz n l).e = e ∧ (rowOf P e sz n l).sz = sz ∧ (rowOf P e sz n l).okc ∧ (rowOf P e sz n l).count = n ∧ VRs w Im ρ (rowOf P e sz n l).c.flat vs := by
  have hcells : (({ e := e, sz := sz, c := .cells l } : Row)).okc ∧ ({ e := e, sz := sz, c := .cells l } : Row).count = n := by
    have : ({ e := e, sz := sz, c := .cells l } : Row).count = n := by simp only [Row.count, hl]; exact Nat.mul_div_cancel _ hp
    exact ⟨by simp only [Row.okc, this, hl], this⟩
  unfold rowOf
  split
  · rename_i t ht
    split
    · rename_i hc
      split
      · rename_i xs hxs
        obtain ⟨h1, h2⟩ := decAll_ok hxs hv
        exact ⟨rfl, rfl, hc, h2, h1⟩
      · exact ⟨rfl, rfl, hcells.1, hcells.2, hv⟩
    · exact ⟨rfl, rfl, hcells.1, hcells.2, hv⟩
  · exact ⟨rfl, rfl, hcells.1, hcells.2, hv⟩

theorem fillP_len {m : Rows} {ev t} : ∀ {parts : List (Nat × Operand)} {cs cs' : List AV}, fillP P m ev t cs parts = some cs' → cs'.length = cs.length
  | [], cs, cs', h => by simp only [fillP, Option.some.injEq] at h; rw [h]
  | (i, x) :: r, cs, cs', h => by
    simp only [fillP] at h
    split at h
    · split at h
      · split at h
        · rename_i hc
          rw [fillP_len h]
          simp only [splice, List.length_append, List.length_take, List.length_drop]
          omega
        · cases h
      · cases h
    · cases h

theorem mat_len {lim : Nat} : ∀ {l : List AV} {nb : Nat} {l' : List AV} {m' : Rows}, mat P lim nb l = some (l', m') → l'.length = l.length
  | [], nb, l', m', h => by simp only [mat, Option.some.injEq, Prod.mk.injEq] at h; obtain ⟨rfl, rfl⟩ := h; rfl
  | x :: l, nb, l', m', h => by
    simp only [mat] at h
    split at h
    · rename_i l1 m1 hl
      have := mat_len hl
      split at h
      · split at h
        · split at h
          · simp only [Option.some.injEq, Prod.mk.injEq] at h; obtain ⟨rfl, rfl⟩ := h; simp [this]
          · cases h
        · cases h
      · simp only [Option.some.injEq, Prod.mk.injEq] at h; obtain ⟨rfl, rfl⟩ := h; simp [this]
    · cases h

theorem rowOf_obj (P : Program) (e : TypeId) (sz n : Nat) (cs : List AV) : (rowOf P e sz n cs).c.isObj = false := by
  unfold rowOf
  repeat' split
  all_goals rfl

theorem opBuildSlice_ok {nb t len parts d} {tm : List AV} {a : Act} (h : (opBuildSlice P m t len nb (evO P tm) parts).get = some d) (hr : RS w Im ρ m) (ht : VRs w Im ρ tm a.tmps.toList) (hf : ∀ q, nb ≤ q → q < nb + 64 → ρ q = .unborn) :
    Does nb Im ρ m w P d (Instr.buildSlice t len (parts.map fun p => (p.1, a.eval p.2)).toArray) := by
  unfold opBuildSlice at h
  split at h
  · rename_i e he
    have hst : P.underlying t = some (.slice e) := by
      unfold elemT at he
      split at he
      · rename_i e' hu; cases he; exact hu
      · cases he
    split at h
    · rename_i z hz
      split at h
      · rename_i hc
        obtain ⟨hat, hl, hzl, hp, hmax, hlen⟩ := hc
        split at h
        · rename_i cs hcs
          split at h
          · rename_i l m' hmat
            obtain ⟨_, rfl⟩ := get_val h
            obtain ⟨zv, i, hzrun, hi, hz', hvz, hone⟩ := zero_cells hz hat hr
            have hzs : zv.cells.size = P.cellsOf e := by rw [← hzl, ← Array.length_toList]; exact VRs_len hvz
            have hmade : (madeCells zv.cells (len * P.cellsOf e)).toList = (List.replicate len zv.cells.toList).flatten := by rw [← hzs]; exact made_flat _ _
            obtain ⟨vs', h1, h2⟩ := fill_ok (P := P) (pl := fun i => some (i * P.cellsOf e, P.cellsOf e)) (t := t) (by
              intro i off sz ft hp
              simp only [place, hst, Option.some.injEq, Prod.mk.injEq] at hp
              obtain ⟨rfl, rfl, rfl⟩ := hp
              rfl) hr ht parts _ cs (madeCells zv.cells (len * P.cellsOf e)) hcs (by rw [hmade]; exact VRs_rep hvz len)
            have hcl : l.length = len * P.cellsOf e := by
              rw [mat_len hmat, fillP_len hcs, List.length_flatten]
              simp [hzl]
            obtain ⟨ρ1, hE, hv1, hk⟩ := mat_ok (nb0 := nb) (Nat.le_refl _) _ (nb + 1) _ _ _ m ρ hmat hr h2 (fun q a b => hf q (by omega) b) (by omega)
            have hu : ρ1 nb = .unborn := by rw [hk nb (by omega)]; exact hf nb (Nat.le_refl _) (by omega)
            have hlen' := VRs_len hv1
            obtain ⟨r1, r2, r3, r4, r5⟩ := rowOf_ok (P := P) (e := e) hp hcl hv1
            have he2 := Eff.new (nb := nb) (w' := w.alloc (.cells vs' e)) hE.rs hu ⟨Nat.le_refl _, by omega⟩ (x := rowOf P e (P.cellsOf e) len l) (cur := vs') (cap := len) (by rw [r2]; exact hp) r3 (by rw [r4]; exact Nat.le_refl _)
              (by simp only [maxLen]; omega) (by rw [r2, ← Array.length_toList, hlen', hcl]) (by rw [r4, r2, List.take_of_length_le (by rw [hlen', hcl]; exact Nat.le_refl _)]; exact r5) (fr := (0, 0)) (NF_zero _) (kp_alloc _ _) (g0 := w.heap.size) (Nat.le_refl _) (by rw [r1]; exact heap_alloc_new w _) (rowOf_obj _ _ _ _ _)
            rw [r4] at he2
            refine ⟨.slice (some ⟨w.heap.size, 0, none⟩) len len, w.alloc (.cells vs' e), Im, upd ρ1 nb (.blk w.heap.size len len), ?_, ?_, ?_⟩
            · have hsz := cellsOf_run (w := w) hp
              by_cases h0 : len * P.cellsOf e = 0
              · simp only [Instr.buildSlice, Sem.run_bind, run_underlying hst, Result.andThen_ok, hsz]
                rw [if_neg (by omega)]
                have hm0 : madeCells zv.cells (len * P.cellsOf e) = (Array.range (len * P.cellsOf e)).map ((#[] : Array Value)[· % (#[] : Array Value).size]!) := by
                  rw [h0]; simp [madeCells, Array.range_zero']
                rw [hm0] at h1
                simp only [if_pos h0]
                rw [Sem.run_bind, Sem.run_pure, Result.andThen_ok]
                rw [h1]
                simp [newRow]
              · simp only [Instr.buildSlice, Sem.run_bind, run_underlying hst, Result.andThen_ok, hsz]
                rw [if_neg (by omega)]
                simp only [if_neg h0, Sem.run_bind, hzrun, Sem.run_pure, Result.andThen_ok]
                have h1' : Instr.fill (fun i => some (i * P.cellsOf e, P.cellsOf e)) ((Array.range (len * P.cellsOf e)).map (zv.cells[· % zv.cells.size]!)) (parts.map fun p => (p.1, a.eval p.2)) = some vs' := h1
                simp [h1', newRow]
            · show Eff nb Im ρ w _ _ (upR m (ups m' ++ [(nb, some (rowOf P e (P.cellsOf e) len l))])) _
              rw [upR_append]
              exact hE.trans he2
            · simp only [VR, upd_same]
          · cases h
        · cases h
      · cases h
    · cases h
  · cases h

theorem minmax_ok {P : Program} : ∀ (l : List AV) (k : IntKind) (n : Int) (r : AV) (vs : List Value), minmax true (.int k n) l = some r → VRs w Im ρ l vs →
    ∃ x, (vs.foldlM Builtin.min2 (Value.int k n)).run P w = .ok (.int k x) w ∧ r = .int k x
  | [], k, n, r, vs, h, hv => by
    simp only [VRs] at hv; subst hv
    simp only [minmax, Option.some.injEq] at h; subst h
    exact ⟨n, rfl, rfl⟩
  | y :: l, k, n, r, vs, h, hv => by
    obtain ⟨v, us, rfl, h1, h2⟩ := VRs_cons.1 hv
    cases y <;> simp only [minmax] at h <;> try (cases h; done)
    rename_i k' q
    split at h
    · rename_i hk; subst hk
      obtain rfl := h1
      simp only [if_true] at h
      obtain ⟨x, hx, hr⟩ := minmax_ok l k _ r us h h2
      exact ⟨x, by simp only [List.foldlM_cons, Builtin.min2, Sem.run_bind, Sem.run_pure, Result.andThen_ok]; exact hx, hr⟩
    · cases h

theorem maxmin_ok {P : Program} : ∀ (l : List AV) (k : IntKind) (n : Int) (r : AV) (vs : List Value), minmax false (.int k n) l = some r → VRs w Im ρ l vs →
    ∃ x, (vs.foldlM Builtin.max2 (Value.int k n)).run P w = .ok (.int k x) w ∧ r = .int k x
  | [], k, n, r, vs, h, hv => by
    simp only [VRs] at hv; subst hv
    simp only [minmax, Option.some.injEq] at h; subst h
    exact ⟨n, rfl, rfl⟩
  | y :: l, k, n, r, vs, h, hv => by
    obtain ⟨v, us, rfl, h1, h2⟩ := VRs_cons.1 hv
    cases y <;> simp only [minmax] at h <;> try (cases h; done)
    rename_i k' q
    split at h
    · rename_i hk; subst hk
      obtain rfl := h1
      simp only [Bool.false_eq_true, if_false] at h
      obtain ⟨x, hx, hr⟩ := maxmin_ok l k _ r us h h2
      exact ⟨x, by simp only [List.foldlM_cons, Builtin.max2, Sem.run_bind, Sem.run_pure, Result.andThen_ok]; exact hx, hr⟩
    · cases h
end Go.Proofs.YtfogafinohfpfaaGreatDoorV
