/- That each operation on abstract values does what the machine's operation does: memory that is read, and places. -/
import Derived.Test.YtfogafinohfpfaaGreatDoorVe
namespace Go.Proofs.YtfogafinohfpfaaGreatDoorV
open Go.RowKit
set_option linter.unusedVariables false
set_option linter.unusedSimpArgs false

variable {P : Program} {w : World} {Im : Nat → Prop} {ρ : Nat → Loc} {m : Rows}

theorem inRange_spec {i : Int} {n : Nat} (h : inRange i n = true) : 0 ≤ i ∧ i < (n : Int) := by
  simpa [inRange, leI_eq, ltI_eq] using h

theorem addr_add (g k j : Nat) : (⟨g, k, none⟩ : Addr).add j = ⟨g, k + j, none⟩ := by
  unfold Addr.add; split <;> simp_all

theorem addr_add2 {a : Addr} (h : a.spot = none) (i j : Nat) : (a.add i).add j = a.add (i + j) := by
  obtain ⟨b, o, s⟩ := a
  simp only at h; subst h
  simp [addr_add, Nat.add_assoc]

theorem addr_spot {a : Addr} (h : a.spot = none) (i : Nat) : (a.add i).spot = none := by
  unfold Addr.add; split <;> simp_all

theorem opIndexAddr_ok {t x i a b d} (h : (opIndexAddr P m t x i).get = some d) (hr : RS w Im ρ m) (hx : VR w Im ρ x a) (hi : VR w Im ρ i b) : Quiet w Im ρ P d (Instr.indexAt t a b) := by
  unfold opIndexAddr at h
  split at h
  · rename_i e k i hu
    obtain rfl := hi
    have hue : P.elem t = e := by simp [Program.elem, hu]
    have hu' : P.underlying t = some (.slice (P.elem t)) := by rw [hue]; exact hu
    split at h
    · rename_i r sz
      split at h
      · rename_i row hl
        split at h
        · rename_i hsz
          obtain ⟨hc, rfl⟩ := get_val h
          obtain ⟨h0, h1⟩ := inRange_spec hc
          obtain ⟨hs, hs'⟩ := hsz
          have hp : 0 < P.cellsOf e := by have := (hr.row _ _ hl).1; omega
          rcases (hr.row _ _ hl).count with ⟨g, cap, hg⟩ | ⟨hv, h0'⟩
          · simp only [VR, hg] at hx
            subst hx
            refine ⟨rfl, .pointer (some ⟨g, i.toNat * sz + 0, none⟩), ?_, ?_⟩
            · rw [run_indexAt_slice w t _ _ _ _ _ hu', if_pos ⟨h0, h1⟩, hue, cellsOf_run hp]
              simp [Result.andThen, addr_add, hs]
            · simp only [VR, hg]; exact ⟨trivial, by omega⟩
          · omega
        · cases h
      · cases h
    · rename_i r sz off len
      split at h
      · rename_i row hl
        split at h
        · rename_i hsz
          obtain ⟨hc, rfl⟩ := get_val h
          obtain ⟨h0, h1⟩ := inRange_spec hc
          obtain ⟨hs, hs'⟩ := hsz
          have hp : 0 < P.cellsOf e := by have := (hr.row _ _ hl).1; omega
          rcases (hr.row _ _ hl).count with ⟨g, cap, hg⟩ | ⟨hv, h0'⟩
          · simp only [VR, hg] at hx
            obtain ⟨hle, A, c, rfl, _, hA⟩ := hx
            obtain rfl := hA (by omega)
            refine ⟨rfl, .pointer (some ⟨g, (off + i.toNat) * sz + 0, none⟩), ?_, ?_⟩
            · rw [run_indexAt_slice w t _ _ _ _ _ hu', if_pos ⟨h0, h1⟩, hue, cellsOf_run hp]
              simp [Result.andThen, addr_add, hs, Nat.add_mul]
            · simp only [VR, hg]; exact ⟨trivial, by omega⟩
          · simp only [VR, hv] at hx
            omega
        · cases h
      · cases h
    · rename_i ty xs
      split at h
      · rename_i hsz
        obtain ⟨hc, rfl⟩ := get_val h
        obtain ⟨h0, h1⟩ := inRange_spec hc
        have hp : 0 < P.cellsOf e := by have := csz_pos ty; omega
        obtain ⟨A, cap, ha, hle, hcell⟩ := hx
        simp only [List.cons.injEq, and_true] at ha
        subst ha
        have hlt : i.toNat < xs.length := by omega
        obtain ⟨ad, rfl, him, hs, hc⟩ := hcell (by intro e; subst e; simp at hlt)
        obtain ⟨us, hus, hcu⟩ := hc i.toNat hlt
        refine ⟨rfl, .pointer (some (ad.add (i.toNat * P.cellsOf e))), ?_, ?_⟩
        · rw [run_indexAt_slice w t _ _ _ _ _ hu', if_pos ⟨h0, h1⟩, hue, cellsOf_run hp]
          simp [Result.andThen]
        · refine ⟨_, us, rfl, by rw [add_block]; exact him, addr_spot hs _, ?_, fun j u hj => ?_⟩
          · have e : xs.getD i.toNat (dfl ty) = xs[i.toNat] := by simp [List.getD, hlt]
            rw [e]
            exact enc_VRs.2 hus
          · rw [addr_add2 hs, ← hsz]; exact hcu j u hj
      · cases h
    · cases h
  · cases h

/-- The cells behind a pointer into a row. -/
theorem ptr_cells {r i sz j a row} (hr : RS w Im ρ m) (hl : look m r = some row) (hsz : row.sz = sz) (hx : VR w Im ρ (.ptr r i sz j) a) {k : Nat} (hk : j + k ≤ sz) :
    ∃ ad us, a = .pointer (some ad) ∧ VRs w Im ρ (((row.at i).drop j).take k) us ∧ us.length = k ∧ ∀ q u, us[q]? = some u → w.cell? (ad.add q) = some u := by
  subst hsz
  have hok := hr.row _ _ hl
  obtain ⟨hp, hokc, hb⟩ := id hok
  rcases hok.count with ⟨g, cap, hg⟩ | ⟨hv, h0⟩
  · rw [hg] at hb
    simp only [VR, hg] at hx
    obtain ⟨rfl, hi⟩ := hx
    obtain ⟨cur, fr, hh, hf, _, hn, hm, hs, hv⟩ := BOK.cells hb (.inl (by omega))
    have hle : i * row.sz + j + k ≤ row.count * row.sz := by
      have : (i + 1) * row.sz ≤ row.count * row.sz := Nat.mul_le_mul_right _ hi
      rw [Nat.succ_mul] at this; omega
    refine ⟨_, ((cur.toList.take (row.count * row.sz)).drop (i * row.sz + j)).take k, rfl, ?_, ?_, ?_⟩
    · rw [Row.at_flat hokc hi hk]
      exact VRs_take (VRs_drop hv _) _
    · have : cur.size ≥ row.count * row.sz := by rw [hs]; exact Nat.mul_le_mul_right _ hn
      simp; omega
    · intro q u hq
      rw [addr_add, cell_of_row w g _ cur _ fr hh]
      rw [List.getElem?_take] at hq
      split at hq
      · rw [List.getElem?_drop, List.getElem?_take] at hq
        split at hq
        · simpa using hq
        · cases hq
      · cases hq
  · simp only [VR, hv] at hx

theorem loadVar_ok {t : TypeId} {ad : Addr} {us : List Value} (hu : (P.underlying t).isSome = true) (hi : (P.info? t).isSome = true) (hl : us.length = P.cellsOf t) (hc : ∀ q u, us[q]? = some u → w.cell? (ad.add q) = some u) :
    (isAggT P t = true → (loadVar t ad).run P w = .ok (.agg us.toArray) w) ∧ (isAggT P t = false → ∀ u, us = [u] → (loadVar t ad).run P w = .ok u w) := by
  obtain ⟨ds, hds⟩ := Option.isSome_iff_exists.1 hu
  constructor
  · intro ha
    simp only [loadVar, Sem.run_bind, isAgg_run hds, Result.andThen, ha, if_true, cellsOf_run' hi, ← hl]
    rw [run_loadCells_list w ad us hc]
    rfl
  · intro ha u e
    subst e
    have := hc 0 u rfl
    simp only [Addr.add, if_true] at this
    simp [loadVar, Sem.run_bind, isAgg_run hds, Result.andThen, ha, this]

theorem loadOut_ok {t rd cs us ad d} (h : (loadOut P t rd cs).get = some d) (hv : VRs w Im ρ cs us) (hl : us.length = P.cellsOf t) (hc : ∀ q u, us[q]? = some u → w.cell? (ad.add q) = some u) :
    Quiet w Im ρ P d (Instr.loadAt t (.pointer (some ad))) := by
  unfold loadOut at h
  split at h
  · rename_i hu
    simp only [Bool.and_eq_true, decide_eq_true_eq] at hu
    have hi : (P.info? t).isSome = true := by
      have := hu.2
      unfold Program.cellsOf at this
      cases hi : P.info? t with
      | none => simp [hi] at this
      | some i => rfl
    obtain ⟨l1, l2⟩ := loadVar_ok (w := w) hu.1 hi hl hc
    split at h
    · rename_i hagg
      obtain ⟨_, rfl⟩ := get_val h
      exact ⟨rfl, _, by simp [Instr.loadAt, Instr.sureAddr, l1 hagg], us.toArray, rfl, by simpa using hv⟩
    · rename_i hagg
      split at h
      · rename_i v
        obtain ⟨_, rfl⟩ := get_val h
        obtain ⟨u, rfl, hu'⟩ := VRs_one.1 hv
        exact ⟨rfl, u, by simp [Instr.loadAt, Instr.sureAddr, l2 (by simpa using hagg) u rfl], hu'⟩
      · cases h
  · cases h

theorem opLoad_ok {t x a d} (h : (opLoad P m t x).get = some d) (hr : RS w Im ρ m) (hx : VR w Im ρ x a) : Quiet w Im ρ P d (Instr.loadAt t a) := by
  unfold opLoad at h
  split at h
  · rename_i r i sz j
    split at h
    · rename_i row hl
      split at h
      · rename_i hsz
        obtain ⟨ad, us, rfl, hv, hlen, hc⟩ := ptr_cells hr hl hsz.1 hx hsz.2
        exact loadOut_ok h hv hlen hc
      · cases h
    · cases h
  · rename_i l
    split at h
    · rename_i hle
      obtain ⟨ad, us, rfl, him, hs, hv, hc⟩ := hx
      have hv' := VRs_noref (ρ' := ρ) _ _ (by simpa using hle.2) (VRs_take hv (P.cellsOf t))
      have hlu := VRs_len hv
      refine loadOut_ok h hv' (by simp; omega) (fun q u hq => hc q u ?_)
      rw [List.getElem?_take] at hq
      split at hq
      · exact hq
      · cases hq
    · cases h
  · cases h

theorem ptr_at {r i sz j a row} (hr : RS w Im ρ m) (hl : look m r = some row) (hx : VR w Im ρ (.ptr r i sz j) a) : ∃ g n cap, ρ r = .blk g n cap ∧ a = .pointer (some ⟨g, i * sz + j, none⟩) ∧ i < n := by
  rcases (hr.row _ _ hl).count with ⟨g, cap, hg⟩ | ⟨hv, h0⟩
  · simp only [VR, hg] at hx
    exact ⟨g, _, cap, hg, hx.1, hx.2⟩
  · simp only [VR, hv] at hx

theorem opNilCheck_ok {x a d} (h : (opNilCheck m x).get = some d) (hr : RS w Im ρ m) (hx : VR w Im ρ x a) : d.up = [] ∧ VR w Im ρ d.v a ∧ ∃ ad, a = .pointer (some ad) := by
  unfold opNilCheck at h
  split at h
  · split at h
    · rename_i row hl
      obtain ⟨_, rfl⟩ := get_val h
      obtain ⟨g, n, cap, hg, rfl, hi⟩ := ptr_at hr hl hx
      exact ⟨rfl, hx, _, rfl⟩
    · cases h
  · obtain rfl := get_pure h
    obtain ⟨ad, us, rfl, _⟩ := id hx
    exact ⟨rfl, hx, _, rfl⟩
  · cases h

theorem opFieldAddr_ok {t x f a d} (h : (opFieldAddr P m t x f).get = some d) (hr : RS w Im ρ m) (hx : VR w Im ρ x a) : Quiet w Im ρ P d (Instr.fieldAt t a f) := by
  unfold opFieldAddr at h
  split at h
  · rename_i fs hu
    split at h
    · rename_i fd hf
      split at h
      · cases h
      · rename_i hz
        have hrun : ∀ ad : Addr, (Instr.fieldAt t (.pointer (some ad)) f).run P w = .ok (.pointer (some (ad.add fd.offset))) w := by
          intro ad
          simp [Instr.fieldAt, run_underlying hu, hf, Instr.sureAddr, fieldPlace, cellsOf_run (w := w) (Nat.pos_of_ne_zero hz), hz]
        split at h
        · rename_i r i sz j
          split at h
          · rename_i row hl
            obtain ⟨_, rfl⟩ := get_val h
            obtain ⟨g, n, cap, hg, rfl, hi⟩ := ptr_at hr hl hx
            exact ⟨rfl, _, hrun _, by simp only [VR, hg, addr_add]; exact ⟨by rw [Nat.add_assoc], hi⟩⟩
          · cases h
        · rename_i l
          obtain rfl := get_pure h
          obtain ⟨ad, us, rfl, him, hs, hv, hc⟩ := hx
          refine ⟨rfl, _, hrun _, ad.add fd.offset, us.drop fd.offset, rfl, by rw [add_block]; exact him, addr_spot hs _, VRs_drop hv _, fun q u hq => ?_⟩
          rw [addr_add2 hs]
          rw [List.getElem?_drop] at hq
          exact hc _ u hq
        · cases h
    · cases h
  · cases h

theorem opIndexArr_ok {t n e x i a b d} (hu : P.underlying t = some (.array n e)) (h : (opIndexArr P m n e x i).get = some d) (hr : RS w Im ρ m) (hx : VR w Im ρ x a) (hi : VR w Im ρ i b) : Quiet w Im ρ P d (Instr.indexAt t a b) := by
  unfold opIndexArr at h
  split at h
  · rename_i k i
    obtain rfl := hi
    split at h
    · rename_i hz
      have hue : P.elem t = e := by simp [Program.elem, hu]
      have hul : P.arrayLen t = n := by simp [Program.arrayLen, hu]
      have hrun : ∀ ad : Addr, inRange i n = true → (Instr.indexAt t (.pointer (some ad)) (.int k i)).run P w = .ok (.pointer (some (ad.add (i.toNat * P.cellsOf e)))) w := by
        intro ad hc
        obtain ⟨h0, h1⟩ := inRange_spec hc
        rw [run_indexAt_array w t ad k i (by rw [hue, hul]; exact hu), hul, hue, if_pos ⟨h0, h1⟩, cellsOf_run hz]
        rfl
      split at h
      · rename_i r q sz j
        split at h
        · rename_i row hl
          obtain ⟨hc, rfl⟩ := get_val h
          obtain ⟨g, n', cap, hg, rfl, hi'⟩ := ptr_at hr hl hx
          exact ⟨rfl, _, hrun _ hc, by simp only [VR, hg, addr_add]; exact ⟨by rw [Nat.add_assoc], hi'⟩⟩
        · cases h
      · rename_i l
        obtain ⟨hc, rfl⟩ := get_val h
        obtain ⟨ad, us, rfl, him, hs, hv, hcc⟩ := hx
        refine ⟨rfl, _, hrun _ hc, ad.add (i.toNat * P.cellsOf e), us.drop (i.toNat * P.cellsOf e), rfl, by rw [add_block]; exact him, addr_spot hs _, VRs_drop hv _, fun u' u hq => ?_⟩
        rw [addr_add2 hs]
        rw [List.getElem?_drop] at hq
        exact hcc _ u hq
      · cases h
    · cases h
  · cases h

theorem part_ok {t : TypeId} {cs : Array Value} {l : List AV} (hv : VRs w Im ρ l cs.toList) {ds : TypeDesc} (hu : P.underlying t = some ds) (off : Nat) :
    (isAggT P t = true → 0 < P.cellsOf t → ∃ u, (part t cs off).run P w = .ok u w ∧ VR w Im ρ (.agg ((l.drop off).take (P.cellsOf t))) u) ∧
    (isAggT P t = false → ∀ v r, l.drop off = v :: r → ∃ u, (part t cs off).run P w = .ok u w ∧ VR w Im ρ v u) := by
  constructor
  · intro ha hp
    refine ⟨.agg (cs.extract off (off + P.cellsOf t)), by simp [part, isAgg_run hu, Result.andThen, ha, cellsOf_run hp], _, rfl, ?_⟩
    have := VRs_take (VRs_drop hv off) (P.cellsOf t)
    rw [Array.toList_extract]
    simpa [List.extract_eq_take_drop] using this
  · intro ha v r hd
    have h1 := VRs_drop hv off
    rw [hd] at h1
    obtain ⟨u, us, hus, hvu, _⟩ := VRs_cons.1 h1
    have hget : cs[off]? = some u := by
      have : (cs.toList.drop off)[0]? = some u := by rw [hus]; rfl
      rw [List.getElem?_drop] at this
      simpa using this
    exact ⟨u, by simp [part, isAgg_run hu, Result.andThen, ha, hget], hvu⟩

theorem opField_ok {t x f a d} (h : (opField P t x f).get = some d) (hx : VR w Im ρ x a) : Quiet w Im ρ P d (Instr.field t a f) := by
  unfold opField at h
  split at h
  · rename_i fs l hu
    obtain ⟨cs, rfl, hv⟩ := hx
    split at h
    · rename_i fd hf
      split at h
      · rename_i hagg
        split at h
        · rename_i hc
          obtain rfl := get_pure h
          obtain ⟨ds, hds⟩ := Option.isSome_iff_exists.1 hc.1
          obtain ⟨u, hrun, hvu⟩ := (part_ok hv hds fd.offset).1 hagg hc.2
          exact ⟨rfl, u, by simp [Instr.field, run_underlying hu, hf, asAgg, hrun], hvu⟩
        · cases h
      · rename_i hagg
        split at h
        · rename_i v r hd
          split at h
          · rename_i hc
            obtain rfl := get_pure h
            obtain ⟨ds, hds⟩ := Option.isSome_iff_exists.1 hc
            obtain ⟨u, hrun, hvu⟩ := (part_ok hv hds fd.offset).2 (by simpa using hagg) v r hd
            exact ⟨rfl, u, by simp [Instr.field, run_underlying hu, hf, asAgg, hrun], hvu⟩
          · cases h
        · cases h
    · cases h
  · cases h

theorem getD_bytes (s : ByteArray) (i : Nat) (h : i < s.size) : (s.data.toList.getD i 0) = s[i] := by
  cases s with
  | mk d =>
    have hd : i < d.size := h
    simp only [List.getD, Array.getElem?_toList, Array.getElem?_eq_getElem hd, Option.getD_some]
    rfl

theorem foldl_pick (i : Int) : ∀ (l : List AV) (vs : List Value) (k : Nat) (acc : AV) (b : Value), VRs w Im ρ l vs → VR w Im ρ acc b →
    VR w Im ρ ((l.zipIdx k).foldl (fun acc p => pick2 (decide (i = (p.2 : Int))) p.1 acc) acc) (if (k : Int) ≤ i ∧ i < k + vs.length then vs.getD (i - k).toNat undef else b)
  | [], vs, k, acc, b, h, ha => by
    simp only [VRs] at h
    subst h
    simp only [List.zipIdx_nil, List.foldl_nil, List.length_nil]
    rw [if_neg (by omega)]; exact ha
  | x :: l, vs, k, acc, b, h, ha => by
    obtain ⟨v, r, rfl, h1, h2⟩ := VRs_cons.1 h
    simp only [List.zipIdx_cons, List.foldl_cons]
    have ih := foldl_pick i l r (k + 1) _ _ h2 (pick2_ok (c := decide (i = (k : Int))) h1 ha)
    refine Eq.mp (congrArg _ ?_) ih
    by_cases e : i = (k : Int)
    · subst e
      rw [if_neg (by omega), if_pos (by simp), if_pos ⟨Int.le_refl _, by simp only [List.length_cons]; omega⟩]
      simp
    · simp only [decide_eq_true_eq, e, if_false, List.length_cons]
      by_cases c : ((k + 1 : Nat) : Int) ≤ i ∧ i < ((k + 1 : Nat) : Int) + r.length
      · rw [if_pos c, if_pos (by omega)]
        have : (i - (k : Int)).toNat = (i - ((k + 1 : Nat) : Int)).toNat + 1 := by omega
        rw [this]; rfl
      · rw [if_neg c, if_neg (by omega)]

theorem opIndex_ok {t x i a b d} (h : (opIndex P t x i).get = some d) (hx : VR w Im ρ x a) (hi : VR w Im ρ i b) : Quiet w Im ρ P d (Instr.index t a b) := by
  unfold opIndex at h
  split at h
  · rename_i s k i hu
    obtain rfl := hx; obtain rfl := hi
    obtain ⟨hc, rfl⟩ := get_val h
    obtain ⟨h0, h1⟩ := inRange_spec hc
    refine ⟨rfl, _, ?_, rfl⟩
    rw [run_index_string w t s k i hu, dif_pos ⟨h0, h1⟩]
    simp only [bAt]
    rw [getD_bytes s _ (by omega)]
  · rename_i n e l k i hu
    split at h
    · rename_i hcond
      obtain ⟨h1, h2, h3, h4⟩ := hcond
      split at h
      · cases h
      · rename_i x0 r
        obtain ⟨cs, rfl, hv⟩ := hx
        obtain rfl := hi
        obtain ⟨hc, rfl⟩ := get_val h
        obtain ⟨h0, hlt⟩ := inRange_spec hc
        obtain ⟨v0, rs, hcs, hv0, hvr⟩ := VRs_cons.1 hv
        obtain ⟨ds, hds⟩ := Option.isSome_iff_exists.1 h4
        have hlen := VRs_len hv
        have hfold := foldl_pick i r rs 1 x0 v0 hvr hv0
        have hlr : rs.length + 1 = n := by rw [hcs, List.length_cons, h1, h3] at hlen; omega
        have hval : (if ((1 : Nat) : Int) ≤ i ∧ i < ((1 : Nat) : Int) + rs.length then rs.getD (i - ((1 : Nat) : Int)).toNat undef else v0) = cs.toList.getD i.toNat undef := by
          rw [hcs]
          by_cases c : ((1 : Nat) : Int) ≤ i ∧ i < ((1 : Nat) : Int) + rs.length
          · rw [if_pos c]
            have : i.toNat = (i - ((1 : Nat) : Int)).toNat + 1 := by omega
            rw [this]; rfl
          · rw [if_neg c]
            have : i.toNat = 0 := by omega
            rw [this]; rfl
        rw [hval] at hfold
        have hsz : cs.size = n := by rw [← Array.length_toList, hcs, List.length_cons]; exact hlr
        have hget : cs[i.toNat]? = some (cs.toList.getD i.toNat undef) := by
          have : i.toNat < cs.size := by omega
          simp [List.getD, this]
        refine ⟨rfl, _, ?_, hfold⟩
        have hso : (sizeOf e).run P w = .ok 1 w := by rw [cellsOf_run (w := w) (show 0 < P.cellsOf e by omega), h3]
        have hpart : (part e cs (i.toNat * 1)).run P w = .ok (cs.toList.getD i.toNat undef) w := by
          simp only [part, Sem.run_bind, isAgg_run hds, Result.andThen, h2, Bool.false_eq_true, if_false, Nat.mul_one, hget]
          rfl
        simp only [Instr.index, Sem.run_bind, asIntOf, Sem.run_pure, Result.andThen, run_underlying hu, if_pos (And.intro h0 hlt), hso, hpart]
    · cases h
  · cases h
end Go.Proofs.YtfogafinohfpfaaGreatDoorV
