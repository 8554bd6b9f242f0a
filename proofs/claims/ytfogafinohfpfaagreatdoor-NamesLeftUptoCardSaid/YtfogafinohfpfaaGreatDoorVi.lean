/- That each operation on abstract values does what the machine's operation does: appends, what is built, conversions. -/
import Derived.Test.YtfogafinohfpfaaGreatDoorVh
namespace Go.Proofs.YtfogafinohfpfaaGreatDoorV
open Go.RowKit
set_option linter.unusedVariables false
set_option linter.unusedSimpArgs false

variable {P : Program} {w : World} {Im : Nat → Prop} {ρ : Nat → Loc} {m : Rows}

theorem drew_heap (w : World) : w.drew.heap = w.heap := rfl

theorem kp_drew_alloc (w : World) (o : Obj) : Kp (fun _ => False) w (w.drew.alloc o) :=
  ⟨rfl, rfl, rfl, by simp, fun b hb _ => heap_alloc_old w.drew o b hb⟩

theorem slStr {xt : TypeId} (h : slOrStr P xt = true) : P.underlying xt = some .string ∨ ∃ e, P.underlying xt = some (.slice e) := by
  unfold slOrStr at h
  split at h
  · rename_i hu; exact .inl hu
  · rename_i e hu; exact .inr ⟨e, hu⟩
  · cases h

theorem run_append_some {st xt ty e : TypeId} {i : TypeInfo} (ht : P.underlying st = some (.slice e)) (hx : slOrStr P xt = true) (hi : P.info? e = some i)
    {a : Addr} {sLen sCap n : Nat} {x : Value} {news : List Value} (hlen : (Builtin.lenOf x).run P w = .ok n w)
    (hfc : (Builtin.firstCells i.size n x).run P w = .ok news.toArray w) (hroom : sLen + n ≤ sCap)
    {w' : World} (hst : (storeCells (a.add (sLen * i.size)) news).run P w = .ok () w') :
    (Builtin.append_ #[st, xt] ty #[.slice (some a) sLen sCap, x]).run P w = .ok (.slice (some a) (sLen + n) sCap) w' := by
  rcases slStr hx with hu | ⟨e', hu⟩ <;>
    simp [Builtin.append_, run_underlying ht, run_underlying hu, sizeOf, typeInfo, hi, hlen, hroom, hfc, hst]

theorem run_append_nilroom {st xt ty e : TypeId} {i : TypeInfo} (ht : P.underlying st = some (.slice e)) (hx : slOrStr P xt = true) (hi : P.info? e = some i)
    {x : Value} (hlen : (Builtin.lenOf x).run P w = .ok 0 w)
    (hfc : (Builtin.firstCells i.size 0 x).run P w = .ok #[] w) :
    (Builtin.append_ #[st, xt] ty #[.slice none 0 0, x]).run P w = .ok (.slice none 0 0) w := by
  rcases slStr hx with hu | ⟨e', hu⟩ <;>
    simp [Builtin.append_, run_underlying ht, run_underlying hu, sizeOf, typeInfo, hi, hlen, hfc]

theorem run_append_more {st xt ty e : TypeId} {i : TypeInfo} {z : Value} (ht : P.underlying st = some (.slice e)) (hx : slOrStr P xt = true) (hi : P.info? e = some i) (hz : i.zero = some z)
    {A : Option Addr} {sLen sCap n : Nat} {x : Value} {olds news : List Value} (hlen : (Builtin.lenOf x).run P w = .ok n w)
    (hfc : (Builtin.firstCells i.size n x).run P w.drew = .ok news.toArray w.drew)
    (hfo : (Builtin.firstCells i.size sLen (.slice A sLen sCap)).run P w.drew = .ok olds.toArray w.drew)
    (hg : sCap < sLen + n) (hb : (sLen + n) * i.bytes ≤ 140737488355328) (h63 : sLen + n ≤ 9223372036854775807) :
    (Builtin.append_ #[st, xt] ty #[.slice A sLen sCap, x]).run P w = .ok (.slice (some ⟨w.heap.size, 0, none⟩) (sLen + n) (grownCap w (sLen + n) sCap e))
        (w.drew.alloc (.cells (olds.toArray ++ news.toArray ++ Builtin.zeroCells z.cells (grownCap w (sLen + n) sCap e - (sLen + n))) e)) := by
  have hn : ¬ (sLen + n ≤ sCap) := by omega
  have h63' : ¬ (9223372036854775807 < ((sLen : Int) + (n : Int))) := by omega
  have hfit := growslice_fits hg hb
  have h48' : ¬ (281474976710656 < Builtin.nextslicecap (sLen + n) sCap * i.bytes) := by omega
  rcases slStr hx with hu | ⟨e', hu⟩
  · simp [Builtin.append_, run_underlying ht, run_underlying hu, sizeOf, typeInfo, zeroValue, hi, hz, hlen, hn, h63', h48', Question.forced, hfc, hfo, newRow, grownCap]
    congr 2
    apply Array.ext'
    simp [List.append_assoc]
  · simp [Builtin.append_, run_underlying ht, run_underlying hu, sizeOf, typeInfo, zeroValue, hi, hz, hlen, hn, h63', h48', Question.forced, hfc, hfo, newRow, grownCap]
    congr 2
    apply Array.ext'
    simp [List.append_assoc]

theorem cellsOf_info {e : TypeId} (h : 0 < P.cellsOf e) : ∃ i, P.info? e = some i ∧ i.size = P.cellsOf e ∧ i.bytes = P.bytesOf e := by
  unfold Program.cellsOf at h ⊢
  unfold Program.bytesOf
  cases hi : P.info? e with
  | none => simp [hi] at h
  | some i => exact ⟨i, rfl, by simp, by simp⟩

/-- A row of elements, in a new block, behind an append. -/
theorem append_new {nb : Nat} {e : TypeId} {t : Ty} {xs ys : List (El t)} {olds news : List Value} {i : TypeInfo} {z : Value} {sCap : Nat} (hr : RS w Im ρ m) (hu : ρ nb = .unborn)
    (hi : P.info? e = some i) (hsz : csz t = i.size) (hz : i.zero = some z) (hzc : z.cells.size = i.size)
    (ho : VRs w Im ρ (xs.flatMap (enc t)) olds) (hn : VRs w Im ρ (ys.flatMap (enc t)) news) (h63 : xs.length + ys.length ≤ 9223372036854775807) :
    Eff nb Im ρ w Im (upd ρ nb (.blk w.heap.size (xs ++ ys).length (grownCap w (xs.length + ys.length) sCap e))) (putR m nb ⟨e, csz t, .list t (xs ++ ys)⟩)
      (w.drew.alloc (.cells (olds.toArray ++ news.toArray ++ Builtin.zeroCells z.cells (grownCap w (xs.length + ys.length) sCap e - (xs.length + ys.length))) e)) := by
  have hge := grownCap_ge w (xs.length + ys.length) sCap e
  have hcm : grownCap w (xs.length + ys.length) sCap e ≤ maxLen := grownCap_le_maxLen w _ sCap e (by simp only [maxLen]; omega)
  have hlo : olds.length = xs.length * csz t := by rw [VRs_len ho, flatMap_len]
  have hln : news.length = ys.length * csz t := by rw [VRs_len hn, flatMap_len]
  have hcount : ({ e := e, sz := csz t, c := RC.list t (xs ++ ys) } : Row).count = xs.length + ys.length := by simp [Row.count]
  have hpre : (olds.toArray ++ news.toArray ++ Builtin.zeroCells z.cells (grownCap w (xs.length + ys.length) sCap e - (xs.length + ys.length))).toList.take ((xs.length + ys.length) * csz t) = olds ++ news := by
    simp only [Array.toList_append]
    rw [List.take_append_of_le_length (by simp only [List.length_append, hlo, hln, Nat.add_mul]; omega)]
    rw [List.take_of_length_le (by simp only [List.length_append, hlo, hln, Nat.add_mul]; omega)]
  have := Eff.new (nb := nb) (w' := w.drew.alloc (.cells (olds.toArray ++ news.toArray ++ Builtin.zeroCells z.cells (grownCap w (xs.length + ys.length) sCap e - (xs.length + ys.length))) e)) hr hu ⟨Nat.le_refl _, by omega⟩
    (x := ⟨e, csz t, .list t (xs ++ ys)⟩) (cur := olds.toArray ++ news.toArray ++ Builtin.zeroCells z.cells (grownCap w (xs.length + ys.length) sCap e - (xs.length + ys.length)))
    (cap := grownCap w (xs.length + ys.length) sCap e) (csz_pos t) rfl (by rw [hcount]; exact hge) hcm
    (by
      simp only [Array.size_append, List.size_toArray, size_zeroCells, hzc, hlo, hln, ← hsz, ← Nat.add_mul]
      congr 1; omega)
    (by
      rw [hcount, hpre]
      simp only [RC.flat, List.flatMap_append]
      exact VRs_append ho hn) (fr := (0, 0)) (NF_zero _) (kp_drew_alloc _ _) (g0 := w.heap.size) (Nat.le_refl _) (heap_alloc_new w.drew _)
  rw [hcount] at this
  simpa using this

theorem opAppend_ok' {nb st xt ty s x a b d} (h : (opAppend P m st xt nb s x).get = some d) (hr : RS w Im ρ m) (hs : VR w Im ρ s a) (hx : VR w Im ρ x b) (hf : ∀ q, nb ≤ q → q < nb + 64 → ρ q = .unborn) :
    ∃ v w' Im' ρ', (Builtin.append_ #[st, xt] ty #[a, b]).run P w = .ok v w' ∧ Eff nb Im ρ w Im' ρ' (upR m d.up) w' ∧ VR w' Im' ρ' d.v v ∧ (∃ sz, d.v = .own nb sz) ∧ ((∃ g n cap, ρ' nb = .blk g n cap) ∨ v = a ∧ ∀ r sz, s = .own r sz → ρ r = .virt) := by
  unfold opAppend at h
  split at h
  · rename_i e hst0
    have hst : P.underlying st = some (.slice e) := by
      unfold elemT at hst0
      split at hst0
      · rename_i e' hu; cases hst0; exact hu
      · cases hst0
    split at h
    · rename_i t ht
      split at h
      · rename_i hc
        obtain ⟨hxt, hcz, hp, hzs, hbp⟩ := hc
        obtain ⟨i, hi, his, hib⟩ := cellsOf_info hp
        obtain ⟨z, hz, hzc⟩ : ∃ z, i.zero = some z ∧ z.cells.size = i.size := by
          unfold zeroSz at hzs
          rw [hi] at hzs
          simp only at hzs
          split at hzs
          · rename_i z hz; exact ⟨z, hz, by simpa using hzs⟩
          · cases hzs
        have hci : csz t = i.size := by rw [hcz, his]
        have bound : ∀ k : Int, 0 ≤ k → k * (P.bytesOf e : Int) < 140737488355328 → k.toNat * i.bytes ≤ 140737488355328 ∧ k.toNat ≤ 9223372036854775807 := by
          intro k hk hb
          rw [hib]
          have e1 : ((k.toNat * P.bytesOf e : Nat) : Int) = k * (P.bytesOf e : Int) := by
            rw [Int.natCast_mul, Int.toNat_of_nonneg hk]
          have h1 : k.toNat ≤ k.toNat * P.bytesOf e := Nat.le_mul_of_pos_right _ hbp
          omega
        split at h
        · rename_i ys rd hel
          obtain ⟨news, hlen, hfc, hvn⟩ := elemsX_ok (P := P) hel hr hx (size := i.size) hci
          have hunb := hf nb (Nat.le_refl _) (by omega)
          -- nothing is there yet
          have fromNil : ∀ (m1 : Rows) (ρ1 : Nat → Loc) (A : Option Addr), RS w Im ρ1 m1 → ρ1 nb = .unborn → VRs w Im ρ1 (ys.flatMap (enc t)) news → a = .slice A 0 0 →
              (ys.length : Int) * (P.bytesOf e : Int) < 140737488355328 →
              ∃ v w' ρ', (Builtin.append_ #[st, xt] ty #[a, b]).run P w = .ok v w' ∧ Eff nb Im ρ1 w Im ρ' (putR m1 nb ⟨e, csz t, .list t ys⟩) w' ∧ VR w' Im ρ' (.own nb (csz t)) v ∧ ((∃ g n cap, ρ' nb = .blk g n cap) ∨ v = a) := by
            intro m1 ρ1 A hr1 hu1 hv1 ha hb
            subst ha
            by_cases h0 : ys = []
            · subst h0
              simp only [List.flatMap_nil, VRs] at hv1
              subst hv1
              have hE := Eff.virt (nb := nb) hr1 hu1 ⟨Nat.le_refl _, by omega⟩ (x := ⟨e, csz t, .list t []⟩) (csz_pos t) rfl rfl
              refine ⟨.slice A 0 0, w, _, ?_, hE, ?_⟩
              · cases A with
                | none => exact run_append_nilroom hst hxt hi hlen (hfc w rfl)
                | some ad => exact run_append_some hst hxt hi hlen (hfc w rfl) (Nat.le_refl _) (by simp [storeCells])
              · exact ⟨by simp only [VR, upd_same]; exact ⟨A, rfl⟩, .inr rfl⟩
            · have hpos : 0 < ys.length := List.length_pos_iff.2 h0
              obtain ⟨b1, b2⟩ := bound ys.length (by omega) hb
              simp only [Int.toNat_natCast] at b1 b2
              have hrun := run_append_more (P := P) (w := w) (ty := ty) hst hxt hi hz (A := A) (sLen := 0) (sCap := 0) (olds := []) hlen (hfc w.drew rfl)
                (by cases A with
                  | none => simp [Builtin.firstCells]
                  | some ad => simp [Builtin.firstCells, loadCells, loadCellsFrom]) (by omega) (by simpa using b1) (by omega)
              have hE := append_new (nb := nb) (e := e) (sCap := 0) (xs := ([] : List (El t))) (olds := []) hr1 hu1 hi hci hz hzc (by simp [VRs]) hv1 (by simpa using b2)
              simp only [List.length_nil, Nat.zero_add, List.nil_append] at hrun hE
              refine ⟨_, _, _, hrun, hE, ?_, .inl ⟨_, _, _, upd_same ..⟩⟩
              simp only [VR, upd_same]
          split at h
          · obtain ⟨hc, rfl⟩ := get_val h
            simp only [leI_eq, ltI_eq, decide_eq_true_eq] at hc
            obtain ⟨A, ha⟩ := hs
            obtain ⟨v, w', ρ', h1, h2, h3, h4⟩ := fromNil m ρ A hr hunb hvn ha hc
            rw [hcz] at h2 h3
            exact ⟨v, w', Im, ρ', h1, h2, h3, ⟨_, rfl⟩, h4.imp (fun x => x) fun x => ⟨x, fun _ _ e => by cases e⟩⟩
          · rename_i r sz
            split at h
            · rename_i e' sz' t' xs hl
              split at h
              · rename_i htt
                subst htt
                split at h
                · rename_i hcc
                  obtain ⟨rfl, rfl, rfl, hrd⟩ := hcc
                  obtain ⟨hc, rfl⟩ := get_val h
                  simp only [leI_eq, ltI_eq, decide_eq_true_eq] at hc
                  have hrq : r ≠ nb := fun e0 => by
                    subst e0
                    rcases (hr.row _ _ hl).count with ⟨g, cap, hg⟩ | ⟨hv, _⟩
                    · rw [hg] at hunb; cases hunb
                    · rw [hv] at hunb; cases hunb
                  rcases (hr.row _ _ hl).count with ⟨g, cap, hg⟩ | ⟨hv, h0⟩
                  · obtain ⟨_, hokc, hbk⟩ := hr.row _ _ hl
                    rw [hg] at hbk
                    obtain ⟨cur, fr, hh, hnf, hcn, hn, hm, hsz, hvr⟩ := hbk
                    simp only [VR, hg] at hs
                    subst hs
                    simp only [Row.count] at *
                    simp only [Row.okc] at hokc
                    rw [← hcz] at hsz hvr
                    simp only [RC.flat] at hvr
                    obtain ⟨b1, b2⟩ := bound ((xs.length : Int) + ys.length) (by omega) hc
                    have etn : ((xs.length : Int) + (ys.length : Int)).toNat = xs.length + ys.length := by omega
                    rw [etn] at b1 b2
                    have hln : news.length = ys.length * csz t' := by rw [VRs_len hvn, flatMap_len]
                    have hcurn : xs.length * csz t' ≤ cur.size := by rw [hsz]; exact Nat.mul_le_mul_right _ hn
                    have hlo : (cur.toList.take (xs.length * csz t')).length = xs.length * csz t' := by simp; omega
                    by_cases hroom : xs.length + ys.length ≤ cap
                    · have hfit : xs.length * csz t' + news.length ≤ cur.size := by rw [hln, hsz, ← Nat.add_mul]; exact Nat.mul_le_mul_right _ hroom
                      have hst' := run_storeCells_nf P g (xs.length * csz t') e' fr news 0 cur w hh hnf (by omega) (VRs_flat_one hvn)
                      simp only [Nat.add_zero] at hst'
                      have hrun := run_append_some (P := P) (w := w) (ty := ty) hst hxt hi (a := ⟨g, 0, none⟩) (sLen := xs.length) hlen (hfc w rfl) hroom (by rw [addr_add, ← hci, Nat.zero_add]; exact hst')
                      have hse : (cur.toList.take (xs.length * csz t') ++ news ++ cur.toList.drop (xs.length * csz t' + news.length)).toArray.size = cur.size := by
                        simp only [List.size_toArray, List.length_append, hlo, List.length_drop, Array.length_toList]
                        omega
                      have hpre : (cur.toList.take (xs.length * csz t') ++ news ++ cur.toList.drop (xs.length * csz t' + news.length)).toArray.toList.take ((xs.length + ys.length) * csz t') = cur.toList.take (xs.length * csz t') ++ news := by
                        rw [List.take_append_of_le_length (by simp only [List.length_append, hlo, hln, Nat.add_mul]; omega)]
                        rw [List.take_of_length_le (by simp only [List.length_append, hlo, hln, Nat.add_mul]; omega)]
                      have hE := Eff.move (nb := nb) (n' := xs.length + ys.length) (cap' := cap) (y := ⟨e', csz t', .list t' (xs ++ ys)⟩) hr hg hunb ⟨Nat.le_refl _, by omega⟩ (setRow_heap w g cur _ e' fr hh) (by rw [hse]; exact hnf) (kp_setRow w g _) (csz_pos t') rfl (by simp [Row.count]) hroom hm
                        (by rw [hse]; exact hsz) (by rw [hpre]; simp only [RC.flat, List.flatMap_append]; exact VRs_append hvr hvn)
                      refine ⟨_, _, Im, upd (upd ρ r .gone) nb (.blk g (xs.length + ys.length) cap), hrun, ?_, ?_, ⟨_, rfl⟩, .inl ⟨_, _, _, upd_same ..⟩⟩
                      · show Eff nb Im ρ w Im _ (upR m [(r, none), (nb, some ⟨e', P.cellsOf e', .list t' (xs ++ ys)⟩)]) _
                        rw [← hcz]
                        exact hE
                      · simp only [VR, upd_same]
                    · have hrun := run_append_more (P := P) (w := w) (ty := ty) hst hxt hi hz (A := some ⟨g, 0, none⟩) (sLen := xs.length) (sCap := cap) (olds := cur.toList.take (xs.length * csz t')) hlen (hfc w.drew rfl)
                        (run_firstCells_some (P := P) w.drew i.size xs.length ⟨g, 0, none⟩ _ cap _ (by rw [hlo, hci]) (fun j u hj => by
                          rw [addr_add, cell_of_row w.drew g _ cur _ fr hh]
                          rw [List.getElem?_take] at hj
                          split at hj
                          · simpa using hj
                          · cases hj)) (by omega) b1 (by omega)
                      have hd := Eff.del (nb := nb) hr r
                      rw [if_neg (by rw [hg]; simp)] at hd
                      have hE := append_new (nb := nb) (e := e') (sCap := cap) (xs := xs) (olds := cur.toList.take (xs.length * csz t')) hd.rs (by rw [upd_other hrq]; exact hunb) hi hci hz hzc
                        (VRs_mono (fun _ _ => rfl) (fun _ h => h) hd.ext _ _ hvr) (VRs_mono (fun _ _ => rfl) (fun _ h => h) hd.ext _ _ hvn) b2
                      refine ⟨_, _, Im, upd (upd ρ r .gone) nb (.blk w.heap.size (xs ++ ys).length (grownCap w (xs.length + ys.length) cap e')), hrun, ?_, ?_, ⟨_, rfl⟩, .inl ⟨_, _, _, upd_same ..⟩⟩
                      · show Eff nb Im ρ w Im _ (upR m [(r, none), (nb, some ⟨e', P.cellsOf e', .list t' (xs ++ ys)⟩)]) _
                        rw [← hcz]
                        exact hd.trans hE
                      · simp only [VR, upd_same, List.length_append]
                  · simp only [VR, hv] at hs
                    obtain ⟨A, ha⟩ := hs
                    simp only [Row.count] at h0
                    have hx0 : xs = [] := List.eq_nil_of_length_eq_zero h0
                    subst hx0
                    have hd := Eff.del (nb := nb) hr r
                    rw [if_neg (by rw [hv]; simp)] at hd
                    obtain ⟨v, w', ρ', h1, h2, h3, h4⟩ := fromNil (delR m r) _ A hd.rs (by rw [upd_other hrq]; exact hunb) (VRs_mono (fun _ _ => rfl) (fun _ h => h) hd.ext _ _ hvn) ha (by simpa using hc)
                    refine ⟨v, w', Im, ρ', h1, ?_, ?_, ⟨_, rfl⟩, h4.imp (fun x => x) fun x => ⟨x, fun _ _ e => by cases e; exact hv⟩⟩
                    · show Eff nb Im ρ w Im _ (upR m [(r, none), (nb, some ⟨e', P.cellsOf e', .list t' ([] ++ ys)⟩)]) _
                      rw [← hcz]
                      exact hd.trans h2
                    · rw [← hcz]; exact h3
                · cases h
              · cases h
            · cases h
          · cases h
        · cases h
      · cases h
    · cases h
  · cases h

theorem opAppend_ok {nb st xt ty s x a b d} (h : (opAppend P m st xt nb s x).get = some d) (hr : RS w Im ρ m) (hs : VR w Im ρ s a) (hx : VR w Im ρ x b) (hf : ∀ q, nb ≤ q → q < nb + 64 → ρ q = .unborn) :
    Does nb Im ρ m w P d (Builtin.append_ #[st, xt] ty #[a, b]) := by
  obtain ⟨v, w', Im', ρ', h1, h2, h3, _⟩ := opAppend_ok' (ty := ty) h hr hs hx hf
  exact ⟨v, w', Im', ρ', h1, h2, h3⟩

theorem bufOf_get {o : OR} {d : Dl} (h : (bufOf o).get = some d) : ∃ d0 q sz, o.get = some d0 ∧ d0.v = .own q sz ∧ d = ⟨.oref .buf q, d0.up, d0.rd⟩ := by
  unfold bufOf at h
  split at h
  · rename_i c q sz up rd
    obtain ⟨rfl, rfl⟩ := get_val h
    exact ⟨_, q, sz, rfl, rfl, rfl⟩
  · cases h

theorem opApp_ok {nb st xt ty s x a b d} (h : (opApp P m st xt nb s x).get = some d) (hr : RS w Im ρ m) (hs : VR w Im ρ s a) (hx : VR w Im ρ x b) (hf : ∀ q, nb ≤ q → q < nb + 64 → ρ q = .unborn) :
    Does nb Im ρ m w P d (Builtin.append_ #[st, xt] ty #[a, b]) := by
  unfold opApp at h
  split at h
  · rename_i r
    split at h
    · rename_i e he
      obtain ⟨d0, q, sz, hg, hv, rfl⟩ := bufOf_get h
      have hs' : VR w Im ρ (.own r (P.cellsOf e)) a := by
        simp only [VR] at hs ⊢
        cases hρ : ρ r with
        | unborn => rw [hρ] at hs; exact hs
        | gone => trivial
        | virt => rw [hρ] at hs; exact ⟨none, hs⟩
        | blk g n cap => rw [hρ] at hs; exact hs
      obtain ⟨v, w', Im', ρ', h1, h2, h3, ⟨sz', h4⟩, h5⟩ := opAppend_ok' (ty := ty) hg hr hs' hx hf
      refine ⟨v, w', Im', ρ', h1, h2, ?_⟩
      rw [hv] at h4
      cases h4
      rw [hv] at h3
      simp only [VR] at h3 ⊢
      cases hq : ρ' nb with
      | unborn => rw [hq] at h3; exact h3
      | gone => trivial
      | virt =>
        rcases h5 with ⟨g, n, cap, e1⟩ | ⟨rfl, hvirt⟩
        · rw [hq] at e1; cases e1
        · have := hvirt r _ rfl
          simp only [VR, this] at hs
          exact hs
      | blk g n cap => rw [hq] at h3; exact h3
    · cases h
  · exact opAppend_ok h hr hs hx hf

/-! ### What is made -/
theorem range_add' (a b : Nat) : List.range (a + b) = List.range a ++ (List.range b).map (a + ·) := by
  rw [List.range_add]

theorem made_flat (z : Array Value) : ∀ n : Nat, (madeCells z (n * z.size)).toList = (List.replicate n z.toList).flatten
  | 0 => by simp [madeCells, Array.range_zero']
  | n + 1 => by
    have ih := made_flat z n
    by_cases hz : z.size = 0
    · have : z.toList = [] := by apply List.eq_nil_of_length_eq_zero; simpa using hz
      rw [this, hz]
      have : ∀ k, (List.replicate k ([] : List Value)).flatten = [] := by intro k; induction k <;> simp_all
      rw [this]
      simp [madeCells, Array.range_zero']
    · have hp : 0 < z.size := Nat.pos_of_ne_zero hz
      rw [List.replicate_succ, List.flatten_cons, ← ih]
      have e1 : (n + 1) * z.size = z.size + n * z.size := by rw [Nat.succ_mul]; omega
      simp only [madeCells, Array.toList_map, Array.toList_range] at ih ⊢
      rw [e1, range_add', List.map_append, List.map_map]
      congr 1
      · apply List.ext_getElem
        · simp
        · intro i h1 h2
          simp only [List.length_map, List.length_range] at h1
          simp [Nat.mod_eq_of_lt h1, h1]
      · apply List.map_congr_left
        intro k _
        simp

theorem VRs_rep {l : List AV} {vs : List Value} (h : VRs w Im ρ l vs) : ∀ n, VRs w Im ρ (List.replicate n l).flatten (List.replicate n vs).flatten
  | 0 => by simp [VRs]
  | n + 1 => by
    rw [List.replicate_succ, List.replicate_succ, List.flatten_cons, List.flatten_cons]
    exact VRs_append h (VRs_rep h n)

theorem enc_rep (t : Ty) (x : El t) : ∀ n, (List.replicate n x).flatMap (enc t) = (List.replicate n (enc t x)).flatten
  | 0 => rfl
  | n + 1 => by simp [List.replicate_succ, enc_rep t x n]

theorem ofVal1_refs {ty v x} (h : ofVal1 P ty v = some x) : x.refs = [] := by
  unfold ofVal1 at h
  split at h
  case h_5 =>
    cases hx : elemT P ty with
    | none => simp [hx] at h
    | some e =>
      simp only [hx, Option.map_some, Option.some.injEq] at h
      subst h; rfl
  all_goals first
    | (cases h; rfl)
    | cases h

theorem ofVals_refs : ∀ {ts vs l}, ofVals P ts vs = some l → AV.refsL l = []
  | [], [], l, h => by cases h; rfl
  | [], v :: vs, l, h => by simp [ofVals] at h
  | t :: ts, [], l, h => by simp [ofVals] at h
  | t :: ts, v :: vs, l, h => by
    simp only [ofVals] at h
    split at h
    · rename_i x l' hx hl
      cases h
      simp [AV.refsL, ofVal1_refs hx, ofVals_refs hl]
    · cases h

theorem zero_refs {t z} (h : zeroOf P t = some z) : AV.refsL z.cells = [] := by
  unfold zeroOf at h
  split at h
  · split at h
    · unfold ofVal at h
      split at h
      · rename_i cs _
        cases hx : ofVals P (cellTys P 20 t) cs.toList with
        | none => simp [hx] at h
        | some l =>
          simp only [hx, Option.map_some, Option.some.injEq] at h
          subst h
          exact ofVals_refs hx
      · have := ofVal1_refs h
        cases z <;> simp_all [AV.cells, AV.refsL, AV.refs]
    · cases h
  · cases h

theorem zero_cells {t z} (h : zeroOf P t = some z) (ha : z.cells.all AV.isAtom = true) (hr : RS w Im ρ m) :
    ∃ zv i, (zeroValue t).run P w = .ok zv w ∧ P.info? t = some i ∧ i.zero = some zv ∧ VRs w Im ρ z.cells zv.cells.toList ∧ ∀ u ∈ zv.cells.toList, u.oneCell' = true := by
  obtain ⟨zv, i, h1, h2, h3, h4⟩ := zeroOf_ok (w := w) (Im := Im) (ρ := ρ) h
  obtain ⟨a, b⟩ := cells_ok hr h2 ha (by simp [liveL, zero_refs h])
  exact ⟨zv, i, h1, h3, h4, a, b⟩

theorem opMake_ok {nb t x y a b d} (h : (opMake P t nb x y).get = some d) (hr : RS w Im ρ m) (hx : VR w Im ρ x a) (hy : VR w Im ρ y b) (hf : ∀ q, nb ≤ q → q < nb + 64 → ρ q = .unborn) :
    Does nb Im ρ m w P d (Instr.makeSlice t a b) := by
  unfold opMake at h
  split at h
  · rename_i e kl l kc c hst0
    have hst : P.underlying t = some (.slice e) := by
      unfold elemT at hst0
      split at hst0
      · rename_i e' hu; cases hst0; exact hu
      · cases hst0
    obtain rfl := hx
    obtain rfl := hy
    split at h
    · rename_i ty hty
      split at h
      · rename_i z hz
        split at h
        · rename_i q hdec
          split at h
          · rename_i hc
            obtain ⟨hcz, hp, hat, hzl⟩ := hc
            obtain ⟨hcc, rfl⟩ := get_val h
            simp only [Bool.and_eq_true, leI_eq, ltI_eq, decide_eq_true_eq] at hcc
            obtain ⟨h0, hlc, hb1, hb2⟩ := hcc
            obtain ⟨i, hi, his, hib⟩ := cellsOf_info hp
            obtain ⟨zv, i', hzrun, hi', hz', hvz, hone⟩ := zero_cells hz hat hr
            rw [hi] at hi'; cases hi'
            have hunb := hf nb (Nat.le_refl _) (by omega)
            have hbb : (i.bytes : Int) * c ≤ 281474976710656 := by
              rw [hib, Int.mul_comm]; omega
            have hrun := run_make (P := P) w t e i zv hst hi hz' kl kc l c h0 hlc hbb (by omega)
            have hzsz : zv.cells.size = i.size := by rw [his, ← hzl, ← Array.length_toList]; exact VRs_len hvz
            have hci : csz ty = i.size := by rw [hcz, his]
            have hq : VRs w Im ρ (enc ty q) zv.cells.toList := by
              have := dec_ok hdec hvz
              rwa [List.append_nil] at this
            have hlist : (madeCells zv.cells (c.toNat * i.size)).toList = (List.replicate c.toNat zv.cells.toList).flatten := by
              rw [← hzsz]; exact made_flat _ _
            have htake : (madeCells zv.cells (c.toNat * i.size)).toList.take (l.toNat * csz ty) = (List.replicate l.toNat zv.cells.toList).flatten := by
              rw [hlist]
              have : c.toNat = l.toNat + (c.toNat - l.toNat) := by omega
              rw [this, ← List.replicate_append_replicate, List.flatten_append, List.take_left']
              rw [List.length_flatten]
              simp [hzsz, hci]
            have hE := Eff.new (nb := nb) (w' := w.alloc (.cells (madeCells zv.cells (c.toNat * i.size)) e)) hr hunb ⟨Nat.le_refl _, by omega⟩ (x := ⟨e, csz ty, .list ty (List.replicate l.toNat q)⟩)
              (cur := madeCells zv.cells (c.toNat * i.size)) (cap := c.toNat) (csz_pos ty) rfl (by simp [Row.count]; omega) (by simp only [maxLen]; omega) (by rw [size_madeCells, hci])
              (by
                have hcn : ({ e := e, sz := csz ty, c := RC.list ty (List.replicate l.toNat q) } : Row).count = l.toNat := by simp [Row.count]
                rw [hcn, htake]
                simp only [RC.flat, enc_rep]
                exact VRs_rep hq _) (fr := (0, 0)) (NF_zero _) (kp_alloc _ _) (g0 := w.heap.size) (Nat.le_refl _) (heap_alloc_new w _)
            have hcn : ({ e := e, sz := csz ty, c := RC.list ty (List.replicate l.toNat q) } : Row).count = l.toNat := by simp [Row.count]
            rw [hcn] at hE
            refine ⟨_, _, Im, upd ρ nb (.blk w.heap.size l.toNat c.toNat), hrun, ?_, ?_⟩
            · show Eff nb Im ρ w Im _ (upR m [(nb, some ⟨e, P.cellsOf e, .list ty (List.replicate l.toNat q)⟩)]) _
              rw [← hcz]
              exact hE
            · simp only [VR, upd_same]
          · cases h
        · cases h
      · cases h
    · cases h
  · cases h

/-! ### Conversions -/
theorem foldl_bytes : ∀ (l : List Int) (s : ByteArray), (l.foldl (fun r n => r.push (UInt8.ofNat n.toNat)) s) = ⟨(s.data.toList ++ l.map fun n => UInt8.ofNat n.toNat).toArray⟩
  | [], s => by simp
  | x :: l, s => by
    rw [List.foldl_cons, foldl_bytes l]
    congr 1
    apply Array.ext'
    simp [ByteArray.push]

theorem ints_of {l : List Int} {vs : List Value} (h : VRs w Im ρ (l.flatMap (enc (.int .u8))) vs) : vs = l.map (Value.int .u8) := by
  induction l generalizing vs with
  | nil => simpa [VRs] using h
  | cons a l ih =>
    rw [List.flatMap_cons] at h
    obtain ⟨v, r, rfl, h1, h2⟩ := VRs_cons.1 h
    obtain rfl := h1
    rw [ih h2]; rfl

theorem elems_slice {t : Ty} {x : AV} {ys rd v} (h : elems m t x = some (ys, rd)) (hr : RS w Im ρ m) (hx : VR w Im ρ x v) : ∃ A len cap, v = .slice A len cap := by
  unfold elems at h
  split at h
  · split at h
    · rename_i r sz _ _ _ _ _ hl
      rcases (hr.row _ _ hl).count with ⟨g, cap, hg⟩ | ⟨hv, h0⟩
      · simp only [VR, hg] at hx; exact ⟨_, _, _, hx⟩
      · simp only [VR, hv] at hx; obtain ⟨A, hx⟩ := hx; exact ⟨_, _, _, hx⟩
    · cases h
  · split at h
    · rename_i r sz off len _ _ _ _ _ hl
      rcases (hr.row _ _ hl).count with ⟨g, cap, hg⟩ | ⟨hv, h0⟩
      · simp only [VR, hg] at hx; obtain ⟨_, A, c, hx, _⟩ := hx; exact ⟨_, _, _, hx⟩
      · simp only [VR, hv] at hx; obtain ⟨_, _, A, hx⟩ := hx; exact ⟨_, _, _, hx⟩
    · cases h
  · obtain ⟨A, cap, ha, _⟩ := hx
    simp only [List.cons.injEq, and_true] at ha
    exact ⟨_, _, _, ha⟩
  · obtain ⟨A, hx⟩ := hx; exact ⟨_, _, _, hx⟩
  · cases h

theorem opConv_ok {nb s t x a d} (h : (opConv P m s t nb x).get = some d) (hr : RS w Im ρ m) (hx : VR w Im ρ x a) (hf : ∀ q, nb ≤ q → q < nb + 64 → ρ q = .unborn) :
    Does nb Im ρ m w P d (convert s t a) := by
  unfold opConv at h
  split at h
  · rename_i k0 k kk n hs ht
    obtain rfl := get_pure h
    obtain rfl := hx
    exact Quiet.does ⟨rfl, _, by simp [convert, run_underlying hs, run_underlying ht, Conv.intToInt], rfl⟩ hr
  · rename_i b hs ht
    obtain rfl := get_pure h
    obtain rfl := hx
    exact Quiet.does ⟨rfl, _, by simp [convert, run_underlying hs, run_underlying ht], rfl⟩ hr
  · rename_i e b hs ht
    split at h
    · rename_i he
      split at h
      · rename_i hc1
        obtain ⟨hc, rfl⟩ := get_val h
        simp only [leI_eq, ltI_eq, decide_eq_true_eq] at hc
        obtain rfl := hx
        have hunb := hf nb (Nat.le_refl _) (by omega)
        have hge := grownCap_ge w b.size 0 e
        have hcm : grownCap w b.size 0 e ≤ maxLen := grownCap_le_maxLen w _ 0 e (by simp only [maxLen]; omega)
        let cur : Array Value := b.data.map (fun c => Value.int .u8 c.toNat) ++ Array.replicate (grownCap w b.size 0 e - b.size) (.int .u8 0)
        have hcs : cur.size = grownCap w b.size 0 e := by
          simp only [cur, Array.size_append, Array.size_map, Array.size_replicate]
          show b.size + _ = _
          omega
        let w' : World := w.drew.alloc (.cells cur e (grownCap w b.size 0 e, grownCap w b.size 0 e + 1))
        have hfz : (w.drew.alloc (.cells cur e)).freeze ⟨w.heap.size, grownCap w b.size 0 e, none⟩ 1 = w' := by
          unfold World.freeze
          rw [if_neg (by decide)]
          have hh : (w.heap.push (Obj.cells cur e (0, 0))).modify w.heap.size (fun
              | .cells c elem (lo, hi) => .cells c elem (if lo == hi then (grownCap w b.size 0 e, grownCap w b.size 0 e + 1) else (min lo (grownCap w b.size 0 e), max hi (grownCap w b.size 0 e + 1)))
              | o => o) = w.heap.push (Obj.cells cur e (grownCap w b.size 0 e, grownCap w b.size 0 e + 1)) := by
            apply Array.ext_getElem?
            intro j
            rw [Array.getElem?_modify]
            by_cases hj : w.heap.size = j
            · subst hj; simp
            · rw [if_neg hj]; simp only [Array.getElem?_push]; rw [if_neg (Ne.symm hj), if_neg (Ne.symm hj)]
          exact congrArg (fun hp => ({ w.drew with heap := hp } : World)) hh
        have hrun : (convert s t (.string b)).run P w = .ok (.slice (some ⟨w.heap.size, 0, none⟩) b.size (grownCap w b.size 0 e)) w' := by
          have hsh : (w.drew.alloc (.cells cur e)).shape? w.heap.size = some (e, cur.size) := by
            simp only [World.shape?]
            rw [show (w.drew.alloc (Obj.cells cur e)).heap[w.heap.size]? = some (Obj.cells cur e) from heap_alloc_new w.drew _]
          have hmk : (markStringish ⟨w.heap.size, 0, none⟩).run P (w.drew.alloc (.cells cur e)) = .ok () w' := by
            simp only [markStringish, Sem.run_bind, run_shape, hsh, Result.andThen_ok, run_freeze, hcs, hfz]
          simp only [convert, Sem.run_bind, run_underlying hs, run_underlying ht, run_underlying he, Result.andThen_ok, Conv.stringToBytes, run_choose, Question.forced, Bool.false_eq_true, if_false, newRow, run_newObj, Sem.run_pure]
          exact congrArg (fun r : Result Unit => r.andThen fun _ w9 => Result.ok (Value.slice (some ⟨w.heap.size, 0, none⟩) b.size (grownCap w b.size 0 e)) w9) hmk
        have hlen : (sBytes b).length = b.size := by simp [sBytes]
        have htake : cur.toList.take (b.size * 1) = (sBytes b).map (Value.int .u8) := by
          simp only [cur, Array.toList_append, Nat.mul_one]
          rw [List.take_append_of_le_length (by simp), List.take_of_length_le (by simp)]
          simp [sBytes]
        have hE := Eff.new (nb := nb) (w' := w') hr hunb ⟨Nat.le_refl _, by omega⟩ (x := ⟨e, 1, .list (.int .u8) (sBytes b)⟩) (cur := cur) (cap := grownCap w b.size 0 e) Nat.zero_lt_one rfl (by simp only [Row.count, hlen]; exact hge) hcm (by rw [hcs, Nat.mul_one])
          (by
            simp only [Row.count, hlen, htake, RC.flat]
            have : ∀ l : List Int, VRs w Im ρ (l.flatMap (enc (.int .u8))) (l.map (Value.int .u8)) := by
              intro l
              induction l with
              | nil => simp [VRs]
              | cons a l ih => exact VRs_cons.2 ⟨_, _, rfl, rfl, ih⟩
            exact this _)
          (fr := (grownCap w b.size 0 e, grownCap w b.size 0 e + 1)) (fun j hj hh => by rw [hcs] at hj; omega) (kp_drew_alloc _ _) (g0 := w.heap.size) (Nat.le_refl _) (heap_alloc_new w.drew _)
        refine ⟨_, _, Im, _, hrun, hE, ?_⟩
        simp only [VR, upd_same, Row.count, hlen]
      · cases h
    · cases h
  · rename_i e hs ht
    split at h
    · rename_i he
      split at h
      · rename_i l rd hel
        obtain ⟨_, rfl⟩ := get_val h
        obtain ⟨news, hlen, hfc, hv⟩ := elemsX_ok (P := P) (m := m) (t := .int .u8) (ys := l) (rd := rd) (by
          unfold elemsX
          split
          · simp [elems] at hel
          · exact hel) hr hx (size := 1) rfl
        have hnews := ints_of hv
        have hnil := hfc w rfl
        refine Quiet.does ⟨rfl, .string (bytesS l), ?_, rfl⟩ hr
        obtain ⟨A, len, cap, rfl⟩ := elems_slice hel hr hx
        simp only [Builtin.lenOf, Sem.run_pure, Result.ok.injEq, and_true] at hlen
        subst hlen
        rw [run_convert_bytes_string w s t e A l.length cap hs he ht]
        subst hnews
        cases A with
        | none =>
          have hl0 : l = [] := by
            simp only [Builtin.firstCells, Sem.run_pure, Result.ok.injEq, and_true] at hnil
            have := congrArg Array.size hnil
            simp at this
            exact List.eq_nil_of_length_eq_zero this.symm
          subst hl0
          rfl
        | some ad =>
          simp only [Builtin.firstCells, Nat.mul_one] at hnil
          rw [run_bytesToString w ad l.length cap l hnil, foldl_bytes]
          rfl
      · cases h
    · cases h
  · cases h
end Go.Proofs.YtfogafinohfpfaaGreatDoorV
