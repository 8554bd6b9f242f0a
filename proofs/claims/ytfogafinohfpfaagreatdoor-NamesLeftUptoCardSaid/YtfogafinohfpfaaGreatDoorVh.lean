/- That each operation on abstract values does what the machine's operation does: slices, appends, what is built, conversions. -/
import Derived.Test.YtfogafinohfpfaaGreatDoorVg
namespace Go.Proofs.YtfogafinohfpfaaGreatDoorV
open Go.RowKit
set_option linter.unusedVariables false
set_option linter.unusedSimpArgs false

variable {P : Program} {w : World} {Im : Nat → Prop} {ρ : Nat → Loc} {m : Rows}

/-! ### Slices of slices -/
theorem IR_sub {t : Ty} {xs : List (El t)} {A : Option Addr} {len cap : Nat} (h : IR w Im (.list t) xs [.slice A len cap]) {l k c : Nat} (hlk : l + k ≤ xs.length) (hc : k ≤ c) {A' : Option Addr} (hA : k ≠ 0 → A' = A.map (·.add (l * csz t))) :
    IR w Im (.list t) ((xs.drop l).take k) [.slice A' k c] := by
  obtain ⟨A0, cap0, e, hle, hcell⟩ := h
  simp only [List.cons.injEq, Value.slice.injEq, and_true] at e
  obtain ⟨rfl, rfl, rfl⟩ := e
  have hlen : ((xs.drop l).take k).length = k := by simp; omega
  refine ⟨A', c, by rw [hlen], by rw [hlen]; exact hc, fun hne => ?_⟩
  have hk : k ≠ 0 := fun e => hne (by rw [e]; simp)
  obtain ⟨a, ha, him, hs, hcs⟩ := hcell (by intro e; subst e; simp at hlk; omega)
  refine ⟨a.add (l * csz t), by rw [hA hk, ha]; rfl, by rw [add_block]; exact him, addr_spot hs _, fun i hi => ?_⟩
  rw [hlen] at hi
  obtain ⟨us, hus, hcu⟩ := hcs (l + i) (by omega)
  refine ⟨us, ?_, fun j u hj => ?_⟩
  · have e : ((xs.drop l).take k)[i]'(by rw [hlen]; exact hi) = xs[l + i]'(by omega) := by simp
    rw [e]; exact hus
  · rw [addr_add2 hs]
    have := hcu j u hj
    rw [← this]
    congr 2
    rw [Nat.add_mul]; omega

theorem sliced_run {t e : TypeId} {x : Value} (hu : P.underlying t = some (.slice e)) (lo hi mx : Option Value) : (Instr.sliceAt t x lo hi mx).run P w = (Instr.slice t x lo hi mx).run P w :=
  run_sliceAt_slice w t x lo hi mx (by simp [Program.elem, hu])

/-- A slice expression on a slice of so many elements: its bounds within the length. -/
theorem slice_run {t e : TypeId} (hu : P.underlying t = some (.slice e)) (hp : 0 < P.cellsOf e) (A : Option Addr) (len cap : Nat) (hlc : len ≤ cap) :
    (Instr.sliceAt t (.slice A len cap) none none none).run P w = .ok (sliced A 0 len cap (P.cellsOf e)) w ∧
    (∀ k h, 0 ≤ h → h ≤ (len : Int) → (Instr.sliceAt t (.slice A len cap) none (some (.int k h)) none).run P w = .ok (sliced A 0 h.toNat cap (P.cellsOf e)) w) ∧
    (∀ k l, 0 ≤ l → l ≤ (len : Int) → (Instr.sliceAt t (.slice A len cap) (some (.int k l)) none none).run P w = .ok (sliced A l.toNat len cap (P.cellsOf e)) w) ∧
    (∀ k k' l h, 0 ≤ l → l ≤ h → h ≤ (len : Int) → (Instr.sliceAt t (.slice A len cap) (some (.int k l)) (some (.int k' h)) none).run P w = .ok (sliced A l.toNat h.toNat cap (P.cellsOf e)) w) := by
  have hue : P.elem t = e := by simp [Program.elem, hu]
  have hu' : P.underlying t = some (.slice (P.elem t)) := by rw [hue]; exact hu
  have hs := cellsOf_run (w := w) hp
  refine ⟨?_, fun k h h0 h1 => ?_, fun k l h0 h1 => ?_, fun k k' l h h0 h1 h2 => ?_⟩
  · rw [sliced_run hu, run_slice_all w t A len cap hu', hue, hs]; rfl
  · rw [sliced_run hu, run_slice_h w t A len cap hu' k h h0 (by omega), hue, hs]; rfl
  · rw [sliced_run hu, run_slice_l w t A len cap hu' k l h0 h1, hue, hs]; rfl
  · rw [sliced_run hu, run_slice_lh w t A len cap hu' k k' l h h0 h1 (by omega), hue, hs]; rfl

theorem sl_sub {r sz off len g n cap0 : Nat} {A : Option Addr} {cap : Nat} (hρ : ρ r = .blk g n cap0) (hoff : off + len ≤ n) (hA : 0 < len → A = some ⟨g, off * sz, none⟩) (hlc : len ≤ cap) {l h : Nat} (hlh : l ≤ h) (hh : h ≤ len) :
    VR w Im ρ (.sl r sz (off + l) (h - l)) (sliced A l h cap sz) := by
  simp only [VR, hρ]
  refine ⟨by omega, _, _, rfl, by omega, fun hp => ?_⟩
  rw [if_neg (by omega), hA (by omega)]
  simp [addr_add, Nat.add_mul]

theorem virt_sub {r sz : Nat} {A : Option Addr} (hρ : ρ r = .virt) : VR w Im ρ (.sl r sz 0 0) (sliced A 0 0 0 sz) := by
  simp only [VR, hρ]
  exact ⟨trivial, trivial, A, by simp [sliced]⟩

/-- An operand that may be left out. -/
def OptVR (w : World) (Im : Nat → Prop) (ρ : Nat → Loc) : Option AV → Option Value → Prop
  | none, none => True
  | some y, some b => VR w Im ρ y b
  | _, _ => False

theorem opSlice_ok {t x a lo hi mx lo' hi' mx' d} (h : (opSlice P m t x lo hi mx).get = some d) (hr : RS w Im ρ m) (hx : VR w Im ρ x a)
    (hlo : OptVR w Im ρ lo lo') (hhi : OptVR w Im ρ hi hi') (hmx : OptVR w Im ρ mx mx') :
    Quiet w Im ρ P d (Instr.sliceAt t a lo' hi' mx') := by
  unfold opSlice at h
  split at h
  · -- a string
    rename_i s hu
    obtain rfl := hx
    obtain rfl : mx' = none := by cases mx' with | none => rfl | some _ => exact False.elim hmx
    split at h
    · obtain rfl : lo' = none := by cases lo' with | none => rfl | some _ => exact False.elim hlo
      obtain rfl : hi' = none := by cases hi' with | none => rfl | some _ => exact False.elim hhi
      obtain rfl := get_pure h
      refine ⟨rfl, .string (s.extract 0 s.size), ?_, ?_⟩
      · rw [run_sliceAt_string w t _ _ _ _ hu]
        simp [Instr.slice, run_underlying hu, Instr.sliceBounds]
      · simp [VR]
    · rename_i k h0
      obtain rfl : lo' = none := by cases lo' with | none => rfl | some _ => exact False.elim hlo
      obtain ⟨b, rfl, rfl⟩ : ∃ b, hi' = some b ∧ b = .int k h0 := by cases hi' with | none => exact False.elim hhi | some b => exact ⟨b, rfl, hhi⟩
      obtain ⟨hc, rfl⟩ := get_val h
      simp only [Bool.and_eq_true, leI_eq, ltI_eq, decide_eq_true_eq] at hc
      refine ⟨rfl, _, ?_, rfl⟩
      rw [run_sliceAt_string w t _ _ _ _ hu]
      simp [Instr.slice, run_underlying hu, Instr.sliceBounds, run_sliceBound w k h0 s.size _ hc.1 hc.2]
    · rename_i k l0
      obtain rfl : hi' = none := by cases hi' with | none => rfl | some _ => exact False.elim hhi
      obtain ⟨b, rfl, rfl⟩ : ∃ b, lo' = some b ∧ b = .int k l0 := by cases lo' with | none => exact False.elim hlo | some b => exact ⟨b, rfl, hlo⟩
      obtain ⟨hc, rfl⟩ := get_val h
      simp only [Bool.and_eq_true, leI_eq, ltI_eq, decide_eq_true_eq] at hc
      refine ⟨rfl, _, ?_, rfl⟩
      rw [run_sliceAt_string w t _ _ _ _ hu]
      simp [Instr.slice, run_underlying hu, Instr.sliceBounds, run_sliceBound w k l0 s.size _ hc.1 hc.2]
    · rename_i k l0 k' h0
      obtain ⟨b, rfl, rfl⟩ : ∃ b, hi' = some b ∧ b = .int k' h0 := by cases hi' with | none => exact False.elim hhi | some b => exact ⟨b, rfl, hhi⟩
      obtain ⟨b, rfl, rfl⟩ : ∃ b, lo' = some b ∧ b = .int k l0 := by cases lo' with | none => exact False.elim hlo | some b => exact ⟨b, rfl, hlo⟩
      obtain ⟨hc, rfl⟩ := get_val h
      simp only [Bool.and_eq_true, leI_eq, ltI_eq, decide_eq_true_eq] at hc
      refine ⟨rfl, _, ?_, rfl⟩
      have hnn : 0 ≤ h0 := by omega
      rw [run_sliceAt_string w t _ _ _ _ hu]
      simp [Instr.slice, run_underlying hu, Instr.sliceBounds, run_sliceBound w k' h0 s.size _ hnn hc.2.2, run_sliceBound w k l0 h0.toNat _ hc.1 (by omega)]
    · cases h
  · -- a slice
    rename_i e hu
    obtain rfl : mx' = none := by cases mx' with | none => rfl | some _ => exact False.elim hmx
    split at h
    · rename_i ty xs
      split at h
      · rename_i hsz
        have hp : 0 < P.cellsOf e := by have := csz_pos ty; omega
        obtain ⟨A, cap, ha, hle, _⟩ := id hx
        simp only [List.cons.injEq, and_true] at ha
        subst ha
        obtain ⟨r1, r2, r3, r4⟩ := slice_run (w := w) hu hp A xs.length cap hle
        split at h
        · obtain rfl : lo' = none := by cases lo' with | none => rfl | some _ => exact False.elim hlo
          obtain rfl : hi' = none := by cases hi' with | none => rfl | some _ => exact False.elim hhi
          obtain rfl := get_pure h
          refine ⟨rfl, _, r1, ?_⟩
          have := IR_sub (A' := if cap = 0 then A else A.map (·.add (0 * P.cellsOf e))) (l := 0) (k := xs.length) (c := cap - 0) hx (by omega) (by omega) (fun hk => by rw [if_neg (by omega), hsz])
          simpa [sliced, VR] using this
        · rename_i k h0
          obtain rfl : lo' = none := by cases lo' with | none => rfl | some _ => exact False.elim hlo
          obtain ⟨b, rfl, rfl⟩ : ∃ b, hi' = some b ∧ b = .int k h0 := by cases hi' with | none => exact False.elim hhi | some b => exact ⟨b, rfl, hhi⟩
          obtain ⟨hc, rfl⟩ := get_val h
          simp only [Bool.and_eq_true, leI_eq, ltI_eq, decide_eq_true_eq] at hc
          refine ⟨rfl, _, r2 k h0 hc.1 hc.2, ?_⟩
          have := IR_sub (A' := if cap = 0 then A else A.map (·.add (0 * P.cellsOf e))) (l := 0) (k := h0.toNat) (c := cap - 0) hx (by omega) (by omega) (fun hk => by rw [if_neg (by omega), hsz])
          simpa [sliced, VR] using this
        · rename_i k l0
          obtain rfl : hi' = none := by cases hi' with | none => rfl | some _ => exact False.elim hhi
          obtain ⟨b, rfl, rfl⟩ : ∃ b, lo' = some b ∧ b = .int k l0 := by cases lo' with | none => exact False.elim hlo | some b => exact ⟨b, rfl, hlo⟩
          obtain ⟨hc, rfl⟩ := get_val h
          simp only [Bool.and_eq_true, leI_eq, ltI_eq, decide_eq_true_eq] at hc
          refine ⟨rfl, _, r3 k l0 hc.1 hc.2, ?_⟩
          have := IR_sub (A' := if cap = l0.toNat then A else A.map (·.add (l0.toNat * P.cellsOf e))) (l := l0.toNat) (k := xs.length - l0.toNat) (c := cap - l0.toNat) hx (by omega) (by omega) (fun hk => by rw [if_neg (by omega), hsz])
          rw [List.take_of_length_le (by simp)] at this
          exact this
        · rename_i k l0 k' h0
          obtain ⟨b, rfl, rfl⟩ : ∃ b, hi' = some b ∧ b = .int k' h0 := by cases hi' with | none => exact False.elim hhi | some b => exact ⟨b, rfl, hhi⟩
          obtain ⟨b, rfl, rfl⟩ : ∃ b, lo' = some b ∧ b = .int k l0 := by cases lo' with | none => exact False.elim hlo | some b => exact ⟨b, rfl, hlo⟩
          obtain ⟨hc, rfl⟩ := get_val h
          simp only [Bool.and_eq_true, leI_eq, ltI_eq, decide_eq_true_eq] at hc
          refine ⟨rfl, _, r4 k k' l0 h0 hc.1 hc.2.1 hc.2.2, ?_⟩
          have := IR_sub (A' := if cap = l0.toNat then A else A.map (·.add (l0.toNat * P.cellsOf e))) (l := l0.toNat) (k := h0.toNat - l0.toNat) (c := cap - l0.toNat) hx (by omega) (by omega) (fun hk => by rw [if_neg (by omega), hsz])
          rw [← List.drop_take] at this
          exact this
        · cases h
      · cases h
    · rename_i r sz
      split at h
      · rename_i row hl
        split at h
        · rename_i hsz
          obtain ⟨hs1, hs2⟩ := hsz
          have hp : 0 < P.cellsOf e := by have := (hr.row _ _ hl).1; omega
          rcases (hr.row _ _ hl).count with ⟨g, cap, hg⟩ | ⟨hv, h0'⟩
          · obtain ⟨_, _, hb⟩ := hr.row _ _ hl
            rw [hg] at hb
            have hn := BOK.le hb
            simp only [VR, hg] at hx
            subst hx
            obtain ⟨r1, r2, r3, r4⟩ := slice_run (w := w) hu hp (some ⟨g, 0, none⟩) row.count cap hn
            rw [← hs1] at r1 r2 r3 r4
            have sub := fun (l h : Nat) (hlh : l ≤ h) (hh : h ≤ row.count) => sl_sub (w := w) (Im := Im) (ρ := ρ) (sz := sz) (off := 0) (len := row.count) (A := some ⟨g, 0, none⟩) (cap := cap) hg (by omega) (fun _ => by simp) hn hlh hh
            split at h
            · obtain rfl : lo' = none := by cases lo' with | none => rfl | some _ => exact False.elim hlo
              obtain rfl : hi' = none := by cases hi' with | none => rfl | some _ => exact False.elim hhi
              obtain ⟨_, rfl⟩ := get_val h
              refine ⟨rfl, _, r1, ?_⟩
              simp only [VR, hg, sliced]
              simp [addr_add]
            · rename_i k h0
              obtain rfl : lo' = none := by cases lo' with | none => rfl | some _ => exact False.elim hlo
              obtain ⟨b, rfl, rfl⟩ : ∃ b, hi' = some b ∧ b = .int k h0 := by cases hi' with | none => exact False.elim hhi | some b => exact ⟨b, rfl, hhi⟩
              obtain ⟨hc, rfl⟩ := get_val h
              simp only [Bool.and_eq_true, leI_eq, ltI_eq, decide_eq_true_eq] at hc
              refine ⟨rfl, _, r2 k h0 hc.1 hc.2, ?_⟩
              simpa using sub 0 h0.toNat (by omega) (by omega)
            · rename_i k l0
              obtain rfl : hi' = none := by cases hi' with | none => rfl | some _ => exact False.elim hhi
              obtain ⟨b, rfl, rfl⟩ : ∃ b, lo' = some b ∧ b = .int k l0 := by cases lo' with | none => exact False.elim hlo | some b => exact ⟨b, rfl, hlo⟩
              obtain ⟨hc, rfl⟩ := get_val h
              simp only [Bool.and_eq_true, leI_eq, ltI_eq, decide_eq_true_eq] at hc
              refine ⟨rfl, _, r3 k l0 hc.1 hc.2, ?_⟩
              simpa using sub l0.toNat row.count (by omega) (by omega)
            · rename_i k l0 k' h0
              obtain ⟨b, rfl, rfl⟩ : ∃ b, hi' = some b ∧ b = .int k' h0 := by cases hi' with | none => exact False.elim hhi | some b => exact ⟨b, rfl, hhi⟩
              obtain ⟨b, rfl, rfl⟩ : ∃ b, lo' = some b ∧ b = .int k l0 := by cases lo' with | none => exact False.elim hlo | some b => exact ⟨b, rfl, hlo⟩
              obtain ⟨hc, rfl⟩ := get_val h
              simp only [Bool.and_eq_true, leI_eq, ltI_eq, decide_eq_true_eq] at hc
              refine ⟨rfl, _, r4 k k' l0 h0 hc.1 hc.2.1 hc.2.2, ?_⟩
              simpa using sub l0.toNat h0.toNat (by omega) (by omega)
            · cases h
          · simp only [VR, hv] at hx
            obtain ⟨A, rfl⟩ := hx
            obtain ⟨r1, r2, r3, r4⟩ := slice_run (w := w) hu hp A 0 0 (Nat.le_refl _)
            rw [← hs1] at r1 r2 r3 r4
            simp only [h0'] at h
            split at h
            · obtain rfl : lo' = none := by cases lo' with | none => rfl | some _ => exact False.elim hlo
              obtain rfl : hi' = none := by cases hi' with | none => rfl | some _ => exact False.elim hhi
              obtain ⟨_, rfl⟩ := get_val h
              refine ⟨rfl, _, r1, ?_⟩
              simp only [VR, hv, sliced]
              exact ⟨A, by simp⟩
            · rename_i k h0
              obtain rfl : lo' = none := by cases lo' with | none => rfl | some _ => exact False.elim hlo
              obtain ⟨b, rfl, rfl⟩ : ∃ b, hi' = some b ∧ b = .int k h0 := by cases hi' with | none => exact False.elim hhi | some b => exact ⟨b, rfl, hhi⟩
              obtain ⟨hc, rfl⟩ := get_val h
              simp only [Bool.and_eq_true, leI_eq, ltI_eq, decide_eq_true_eq] at hc
              have e0 : h0.toNat = 0 := by omega
              refine ⟨rfl, _, r2 k h0 hc.1 hc.2, ?_⟩
              rw [e0]; exact virt_sub hv
            · rename_i k l0
              obtain rfl : hi' = none := by cases hi' with | none => rfl | some _ => exact False.elim hhi
              obtain ⟨b, rfl, rfl⟩ : ∃ b, lo' = some b ∧ b = .int k l0 := by cases lo' with | none => exact False.elim hlo | some b => exact ⟨b, rfl, hlo⟩
              obtain ⟨hc, rfl⟩ := get_val h
              simp only [Bool.and_eq_true, leI_eq, ltI_eq, decide_eq_true_eq] at hc
              have e0 : l0.toNat = 0 := by omega
              refine ⟨rfl, _, r3 k l0 hc.1 hc.2, ?_⟩
              rw [e0]; exact virt_sub hv
            · rename_i k l0 k' h0
              obtain ⟨b, rfl, rfl⟩ : ∃ b, hi' = some b ∧ b = .int k' h0 := by cases hi' with | none => exact False.elim hhi | some b => exact ⟨b, rfl, hhi⟩
              obtain ⟨b, rfl, rfl⟩ : ∃ b, lo' = some b ∧ b = .int k l0 := by cases lo' with | none => exact False.elim hlo | some b => exact ⟨b, rfl, hlo⟩
              obtain ⟨hc, rfl⟩ := get_val h
              simp only [Bool.and_eq_true, leI_eq, ltI_eq, decide_eq_true_eq] at hc
              have e0 : l0.toNat = 0 := by omega
              have e1 : h0.toNat = 0 := by omega
              refine ⟨rfl, _, r4 k k' l0 h0 hc.1 hc.2.1 hc.2.2, ?_⟩
              rw [e0, e1]; exact virt_sub hv
            · cases h
        · cases h
      · cases h
    · rename_i r sz off len
      split at h
      · rename_i row hl
        split at h
        · rename_i hsz
          obtain ⟨hs1, hs2⟩ := hsz
          have hp : 0 < P.cellsOf e := by have := (hr.row _ _ hl).1; omega
          rcases (hr.row _ _ hl).count with ⟨g, cap, hg⟩ | ⟨hv, h0'⟩
          · simp only [VR, hg] at hx
            obtain ⟨hoff, A, c, rfl, hlc, hA⟩ := hx
            obtain ⟨r1, r2, r3, r4⟩ := slice_run (w := w) hu hp A len c hlc
            rw [← hs1] at r1 r2 r3 r4
            have sub := fun (l h : Nat) (hlh : l ≤ h) (hh : h ≤ len) => sl_sub (w := w) (Im := Im) (ρ := ρ) (sz := sz) (off := off) (len := len) (A := A) (cap := c) hg hoff hA hlc hlh hh
            split at h
            · obtain rfl : lo' = none := by cases lo' with | none => rfl | some _ => exact False.elim hlo
              obtain rfl : hi' = none := by cases hi' with | none => rfl | some _ => exact False.elim hhi
              obtain ⟨_, rfl⟩ := get_val h
              refine ⟨rfl, _, r1, ?_⟩
              simpa using sub 0 len (by omega) (by omega)
            · rename_i k h0
              obtain rfl : lo' = none := by cases lo' with | none => rfl | some _ => exact False.elim hlo
              obtain ⟨b, rfl, rfl⟩ : ∃ b, hi' = some b ∧ b = .int k h0 := by cases hi' with | none => exact False.elim hhi | some b => exact ⟨b, rfl, hhi⟩
              obtain ⟨hc, rfl⟩ := get_val h
              simp only [Bool.and_eq_true, leI_eq, ltI_eq, decide_eq_true_eq] at hc
              refine ⟨rfl, _, r2 k h0 hc.1 hc.2, ?_⟩
              simpa using sub 0 h0.toNat (by omega) (by omega)
            · rename_i k l0
              obtain rfl : hi' = none := by cases hi' with | none => rfl | some _ => exact False.elim hhi
              obtain ⟨b, rfl, rfl⟩ : ∃ b, lo' = some b ∧ b = .int k l0 := by cases lo' with | none => exact False.elim hlo | some b => exact ⟨b, rfl, hlo⟩
              obtain ⟨hc, rfl⟩ := get_val h
              simp only [Bool.and_eq_true, leI_eq, ltI_eq, decide_eq_true_eq] at hc
              refine ⟨rfl, _, r3 k l0 hc.1 hc.2, ?_⟩
              simpa using sub l0.toNat len (by omega) (by omega)
            · rename_i k l0 k' h0
              obtain ⟨b, rfl, rfl⟩ : ∃ b, hi' = some b ∧ b = .int k' h0 := by cases hi' with | none => exact False.elim hhi | some b => exact ⟨b, rfl, hhi⟩
              obtain ⟨b, rfl, rfl⟩ : ∃ b, lo' = some b ∧ b = .int k l0 := by cases lo' with | none => exact False.elim hlo | some b => exact ⟨b, rfl, hlo⟩
              obtain ⟨hc, rfl⟩ := get_val h
              simp only [Bool.and_eq_true, leI_eq, ltI_eq, decide_eq_true_eq] at hc
              refine ⟨rfl, _, r4 k k' l0 h0 hc.1 hc.2.1 hc.2.2, ?_⟩
              simpa using sub l0.toNat h0.toNat (by omega) (by omega)
            · cases h
          · simp only [VR, hv] at hx
            obtain ⟨rfl, rfl, A, rfl⟩ := hx
            obtain ⟨r1, r2, r3, r4⟩ := slice_run (w := w) hu hp A 0 0 (Nat.le_refl _)
            rw [← hs1] at r1 r2 r3 r4
            split at h
            · obtain rfl : lo' = none := by cases lo' with | none => rfl | some _ => exact False.elim hlo
              obtain rfl : hi' = none := by cases hi' with | none => rfl | some _ => exact False.elim hhi
              obtain ⟨_, rfl⟩ := get_val h
              exact ⟨rfl, _, r1, virt_sub hv⟩
            · rename_i k h0
              obtain rfl : lo' = none := by cases lo' with | none => rfl | some _ => exact False.elim hlo
              obtain ⟨b, rfl, rfl⟩ : ∃ b, hi' = some b ∧ b = .int k h0 := by cases hi' with | none => exact False.elim hhi | some b => exact ⟨b, rfl, hhi⟩
              obtain ⟨hc, rfl⟩ := get_val h
              simp only [Bool.and_eq_true, leI_eq, ltI_eq, decide_eq_true_eq] at hc
              have e0 : h0.toNat = 0 := by omega
              refine ⟨rfl, _, r2 k h0 hc.1 hc.2, ?_⟩
              rw [e0]; exact virt_sub hv
            · rename_i k l0
              obtain rfl : hi' = none := by cases hi' with | none => rfl | some _ => exact False.elim hhi
              obtain ⟨b, rfl, rfl⟩ : ∃ b, lo' = some b ∧ b = .int k l0 := by cases lo' with | none => exact False.elim hlo | some b => exact ⟨b, rfl, hlo⟩
              obtain ⟨hc, rfl⟩ := get_val h
              simp only [Bool.and_eq_true, leI_eq, ltI_eq, decide_eq_true_eq] at hc
              have e0 : l0.toNat = 0 := by omega
              refine ⟨rfl, _, r3 k l0 hc.1 hc.2, ?_⟩
              rw [e0]; exact virt_sub hv
            · rename_i k l0 k' h0
              obtain ⟨b, rfl, rfl⟩ : ∃ b, hi' = some b ∧ b = .int k' h0 := by cases hi' with | none => exact False.elim hhi | some b => exact ⟨b, rfl, hhi⟩
              obtain ⟨b, rfl, rfl⟩ : ∃ b, lo' = some b ∧ b = .int k l0 := by cases lo' with | none => exact False.elim hlo | some b => exact ⟨b, rfl, hlo⟩
              obtain ⟨hc, rfl⟩ := get_val h
              simp only [Bool.and_eq_true, leI_eq, ltI_eq, decide_eq_true_eq] at hc
              have e0 : l0.toNat = 0 := by omega
              have e1 : h0.toNat = 0 := by omega
              refine ⟨rfl, _, r4 k k' l0 h0 hc.1 hc.2.1 hc.2.2, ?_⟩
              rw [e0, e1]; exact virt_sub hv
            · cases h
        · cases h
      · cases h
    · cases h
  · -- s[:0:0]
    rename_i e k hu
    obtain ⟨b, rfl, rfl⟩ : ∃ b, mx' = some b ∧ b = .int k 0 := by cases mx' with | none => exact False.elim hmx | some b => exact ⟨b, rfl, hmx⟩
    split at h
    · rename_i k'
      obtain rfl : lo' = none := by cases lo' with | none => rfl | some _ => exact False.elim hlo
      obtain ⟨b, rfl, rfl⟩ : ∃ b, hi' = some b ∧ b = .int k' 0 := by cases hi' with | none => exact False.elim hhi | some b => exact ⟨b, rfl, hhi⟩
      have key : ∀ (A : Option Addr) (len cap : Nat), (P.info? e).isSome = true → ∃ A', (Instr.sliceAt t (.slice A len cap) none (some (.int k' 0)) (some (.int k 0))).run P w = .ok (.slice A' 0 0) w := by
        intro A len cap hi
        rw [sliced_run hu]
        have hb1 := run_sliceBound (P := P) w k 0 cap .slice3Acap (by omega) (by omega)
        have hb2 := run_sliceBound (P := P) w k' 0 0 .slice3B (by omega) (by omega)
        refine ⟨A, ?_⟩
        simp [Instr.slice, run_underlying hu, Instr.sliceBounds, hb1, hb2, cellsOf_run' hi]
      split at h
      · cases h
      · rename_i hi
        have hi' : (P.info? e).isSome = true := by cases hq : P.info? e <;> simp_all
        split at h
        · rename_i ty xs
          obtain rfl := get_pure h
          obtain ⟨A, cap, ha, hle, _⟩ := id hx
          simp only [List.cons.injEq, and_true] at ha
          subst ha
          obtain ⟨A', hrun⟩ := key A xs.length cap hi'
          exact ⟨rfl, _, hrun, A', rfl⟩
        · rename_i r sz
          split at h
          · rename_i row hl
            obtain ⟨_, rfl⟩ := get_val h
            rcases (hr.row _ _ hl).count with ⟨g, cap, hg⟩ | ⟨hv, h0'⟩
            · simp only [VR, hg] at hx
              subst hx
              obtain ⟨A', hrun⟩ := key (some ⟨g, 0, none⟩) row.count cap hi'
              exact ⟨rfl, _, hrun, A', rfl⟩
            · simp only [VR, hv] at hx
              obtain ⟨A, rfl⟩ := hx
              obtain ⟨A', hrun⟩ := key A 0 0 hi'
              exact ⟨rfl, _, hrun, A', rfl⟩
          · cases h
        · obtain rfl := get_pure h
          obtain ⟨A, rfl⟩ := hx
          obtain ⟨A', hrun⟩ := key A 0 0 hi'
          exact ⟨rfl, _, hrun, A', rfl⟩
        · cases h
    · cases h
  · cases h

/-! ### Elements -/
theorem VRs_flat {t : Ty} : ∀ {xs : List (El t)} {vs : List Value}, (∀ i (h : i < xs.length), ∃ us, IR w Im t xs[i] us ∧ ∀ j u, us[j]? = some u → vs[i * csz t + j]? = some u) → vs.length = xs.length * csz t → VRs w Im ρ (xs.flatMap (enc t)) vs
  | [], vs, _, hl => by
    have : vs = [] := List.eq_nil_of_length_eq_zero (by simpa using hl)
    subst this; simp [VRs]
  | x :: l, vs, h, hl => by
    obtain ⟨us, hus, hc⟩ := h 0 (by simp)
    have hlu := IR_len hus
    have e : vs = us ++ vs.drop (csz t) := by
      apply List.ext_getElem?
      intro j
      by_cases hj : j < us.length
      · rw [List.getElem?_append_left hj]
        have := hc j us[j] (by simp [hj])
        rw [Nat.zero_mul, Nat.zero_add] at this
        rw [this]; simp [hj]
      · rw [List.getElem?_append_right (by omega), List.getElem?_drop]
        congr 1; omega
    rw [e, List.flatMap_cons]
    refine VRs_append (enc_VRs.2 hus) (VRs_flat (fun i hi => ?_) ?_)
    · obtain ⟨us', h1, h2⟩ := h (i + 1) (by simpa using hi)
      refine ⟨us', by simpa using h1, fun j u hj => ?_⟩
      rw [List.getElem?_drop, ← h2 j u hj]
      congr 1
      rw [Nat.succ_mul]; omega
    · simp only [List.length_drop, hl, List.length_cons, Nat.succ_mul]; omega

theorem IR_one : ∀ {t : Ty} {x : El t} {us}, IR w Im t x us → ∀ u ∈ us, u.oneCell' = true
  | .int _, _, _, h => by simp only [IR] at h; subst h; simp [Value.oneCell']
  | .bool, _, _, h => by simp only [IR] at h; subst h; simp [Value.oneCell']
  | .str, _, _, h => by simp only [IR] at h; subst h; simp [Value.oneCell']
  | .list _, _, _, h => by obtain ⟨A, cap, rfl, _⟩ := h; simp [Value.oneCell']
  | .node, _, _, h => by
    obtain ⟨v5, v6, rfl, h5, h6⟩ := NR_iff.1 h
    intro u hu
    obtain ⟨A, cap, e5, _⟩ := h5
    obtain ⟨B, cap', e6, _⟩ := h6
    cases e5; cases e6
    simp only [List.mem_cons, List.not_mem_nil, or_false] at hu
    rcases hu with rfl | rfl | rfl | rfl | rfl | rfl <;> simp [Value.oneCell']
  | .prod a b, _, _, h => by
    obtain ⟨c1, c2, rfl, h1, h2⟩ := h
    intro u hu
    rcases List.mem_append.1 hu with hu | hu
    · exact IR_one h1 u hu
    · exact IR_one h2 u hu

theorem VRs_flat_one {t : Ty} : ∀ {xs : List (El t)} {vs : List Value}, VRs w Im ρ (xs.flatMap (enc t)) vs → ∀ u ∈ vs, u.oneCell' = true
  | [], vs, h => by simp [VRs] at h; subst h; simp
  | x :: l, vs, h => by
    rw [List.flatMap_cons] at h
    obtain ⟨a, b, rfl, h1, h2⟩ := VRs_split h
    intro u hu
    rcases List.mem_append.1 hu with hu | hu
    · exact IR_one (enc_VRs.1 h1) u hu
    · exact VRs_flat_one h2 u hu

theorem VRs_sub {t : Ty} {xs : List (El t)} {L : List Value} (h : VRs w Im ρ (xs.flatMap (enc t)) L) {off len : Nat} (hle : off + len ≤ xs.length) :
    VRs w Im ρ (((xs.drop off).take len).flatMap (enc t)) ((L.drop (off * csz t)).take (len * csz t)) := by
  have e1 : ∀ (n : Nat) (ys : List (El t)), (ys.drop n).flatMap (enc t) = (ys.flatMap (enc t)).drop (n * csz t) := by
    intro n
    induction n with
    | zero => intro ys; simp
    | succ n ih =>
      intro ys
      cases ys with
      | nil => simp
      | cons y l =>
        simp only [List.drop_succ_cons, List.flatMap_cons, ih]
        have : (n + 1) * csz t = (enc t y).length + n * csz t := by rw [enc_len, Nat.succ_mul]; omega
        rw [this, List.drop_length_add_append]
  have e2 : ∀ (n : Nat) (ys : List (El t)), (ys.take n).flatMap (enc t) = (ys.flatMap (enc t)).take (n * csz t) := by
    intro n
    induction n with
    | zero => intro ys; simp
    | succ n ih =>
      intro ys
      cases ys with
      | nil => simp
      | cons y l =>
        simp only [List.take_succ_cons, List.flatMap_cons, ih]
        have : (n + 1) * csz t = (enc t y).length + n * csz t := by rw [enc_len, Nat.succ_mul]; omega
        rw [this, List.take_length_add_append]
  rw [e2, e1]
  exact VRs_take (VRs_drop h _) _

/-- What a slice (or a text) holds, for an append or a copy. -/
theorem elemsX_ok {t : Ty} {x : AV} {ys rd v} (h : elemsX m t x = some (ys, rd)) (hr : RS w Im ρ m) (hx : VR w Im ρ x v) {size : Nat} (hsz : csz t = size) :
    ∃ news : List Value, (Builtin.lenOf v).run P w = .ok ys.length w ∧ (∀ w2 : World, w2.heap = w.heap → (Builtin.firstCells size ys.length v).run P w2 = .ok news.toArray w2) ∧
      VRs w Im ρ (ys.flatMap (enc t)) news := by
  subst hsz
  have slice : ∀ (a : Addr) (len cap : Nat) (ys : List (El t)) (news : List Value), news.length = len * csz t → ys.length = len → (∀ j u, news[j]? = some u → w.cell? (a.add j) = some u) → VRs w Im ρ (ys.flatMap (enc t)) news →
      v = .slice (some a) len cap → ∃ news : List Value, (Builtin.lenOf v).run P w = .ok ys.length w ∧ (∀ w2 : World, w2.heap = w.heap → (Builtin.firstCells (csz t) ys.length v).run P w2 = .ok news.toArray w2) ∧
      VRs w Im ρ (ys.flatMap (enc t)) news := by
    intro a len cap ys news hl hy hc hv e
    subst e; subst hy
    refine ⟨news, rfl, fun w2 hw => run_firstCells_some (P := P) w2 (csz t) _ a _ cap news hl (fun j u hj => ?_), hv⟩
    rw [← hc j u hj]
    simp only [World.cell?, hw]
  have empty : ∀ (A : Option Addr), v = .slice A 0 0 → ∀ ys : List (El t), ys = [] → ∃ news : List Value, (Builtin.lenOf v).run P w = .ok ys.length w ∧ (∀ w2 : World, w2.heap = w.heap → (Builtin.firstCells (csz t) ys.length v).run P w2 = .ok news.toArray w2) ∧
      VRs w Im ρ (ys.flatMap (enc t)) news := by
    intro A e ys hy
    subst e; subst hy
    refine ⟨[], rfl, fun w2 _ => ?_, by simp [VRs]⟩
    cases A with
    | none => simp [Builtin.firstCells]
    | some a => simp [Builtin.firstCells, loadCells, loadCellsFrom]
  have row : ∀ {r : Nat} {e : TypeId} {sz : Nat} {xs : List (El t)} {off len : Nat} {A : Option Addr} {c : Nat}, look m r = some ⟨e, sz, .list t xs⟩ → ∀ {g n cap}, ρ r = .blk g n cap → off + len ≤ n → (0 < len → A = some ⟨g, off * sz, none⟩) → v = .slice A len c → (len = 0 → ∃ A', A = A') →
      ∃ news : List Value, (Builtin.lenOf v).run P w = .ok ((xs.drop off).take len).length w ∧ (∀ w2 : World, w2.heap = w.heap → (Builtin.firstCells (csz t) ((xs.drop off).take len).length v).run P w2 = .ok news.toArray w2) ∧
      VRs w Im ρ (((xs.drop off).take len).flatMap (enc t)) news := by
    intro r e sz xs off len A c hl g n cap hg hle hA hv _
    obtain ⟨hp, hokc, hb⟩ := hr.row _ _ hl
    rw [hg] at hb
    obtain ⟨cur, fr, hh, hnf, hcn, hn, hm, hs, hvr⟩ := hb
    simp only [Row.okc] at hokc
    simp only [Row.count] at hcn
    simp only at hs hvr
    subst hokc
    have hylen : ((xs.drop off).take len).length = len := by simp; omega
    by_cases h0 : len = 0
    · subst h0
      subst hv
      refine ⟨[], by simp [Builtin.lenOf], fun w2 _ => ?_, by simp [VRs]⟩
      cases A with
      | none => simp [Builtin.firstCells]
      | some a => simp [Builtin.firstCells, loadCells, loadCellsFrom]
    · have hA' := hA (by omega)
      subst hA'
      have hcur : n * csz t ≤ cur.size := by rw [hs]; exact Nat.mul_le_mul_right _ hn
      have hmul : off * csz t + len * csz t ≤ n * csz t := by rw [← Nat.add_mul]; exact Nat.mul_le_mul_right _ hle
      have := slice ⟨g, off * csz t, none⟩ len c ((xs.drop off).take len) (((cur.toList.take (n * csz t)).drop (off * csz t)).take (len * csz t)) (by simp; omega) hylen
        (fun j u hj => by
          rw [addr_add, cell_of_row w g _ cur _ fr hh]
          rw [List.getElem?_take] at hj
          split at hj
          · rw [List.getElem?_drop, List.getElem?_take] at hj
            split at hj
            · simpa using hj
            · cases hj
          · cases hj) (VRs_sub hvr (by omega)) hv
      exact this
  unfold elemsX at h
  split at h
  · rename_i b
    split at h
    · simp only [Option.some.injEq, Prod.mk.injEq] at h
      obtain ⟨rfl, rfl⟩ := h
      obtain rfl := hx
      have hlen : (sBytes b).length = b.size := by simp [sBytes]
      refine ⟨(sBytes b).map (Value.int .u8), by rw [hlen]; rfl, fun w2 _ => ?_, ?_⟩
      · rw [hlen]
        simp only [Builtin.firstCells, Sem.run_pure]
        congr 1
        apply Array.ext'
        have : (b.extract 0 b.size).data = b.data := by simp
        rw [this]
        simp [sBytes]
      · have : ∀ l : List Int, VRs w Im ρ (l.flatMap (enc (.int .u8))) (l.map (Value.int .u8)) := by
          intro l
          induction l with
          | nil => simp [VRs]
          | cons a l ih => exact VRs_cons.2 ⟨_, _, rfl, rfl, ih⟩
        exact this _
    · cases h
  · rename_i x _
    unfold elems at h
    split at h
    · rename_i r sz _
      split at h
      · rename_i e sz' t' xs hl
        split at h
        · rename_i ht
          subst ht
          simp only [Option.some.injEq, Prod.mk.injEq] at h
          obtain ⟨rfl, rfl⟩ := h
          rcases (hr.row _ _ hl).count with ⟨g, cap, hg⟩ | ⟨hv, h0⟩
          · simp only [VR, hg] at hx
            have := row (off := 0) (len := xs.length) (A := some ⟨g, 0, none⟩) (c := cap) hl hg (by simp [Row.count]) (fun _ => by simp) hx (fun _ => ⟨_, rfl⟩)
            simpa using this
          · simp only [VR, hv] at hx
            obtain ⟨A, hx⟩ := hx
            simp only [Row.count] at h0
            exact empty A hx _ (List.eq_nil_of_length_eq_zero h0)
        · cases h
      · cases h
    · rename_i r sz off len _
      split at h
      · rename_i e sz' t' xs hl
        split at h
        · rename_i ht
          subst ht
          split at h
          · rename_i hs
            subst hs
            simp only [Option.some.injEq, Prod.mk.injEq] at h
            obtain ⟨rfl, rfl⟩ := h
            rcases (hr.row _ _ hl).count with ⟨g, cap, hg⟩ | ⟨hv, h0⟩
            · simp only [VR, hg] at hx
              obtain ⟨hle, A, c, hv, hlc, hA⟩ := hx
              exact row (off := off) (len := len) (A := A) (c := c) hl hg hle hA hv (fun _ => ⟨_, rfl⟩)
            · simp only [VR, hv] at hx
              obtain ⟨rfl, rfl, A, hx⟩ := hx
              exact empty A hx _ (by simp)
          · cases h
        · cases h
      · cases h
    · rename_i t' xs _
      split at h
      · rename_i ht
        subst ht
        simp only [Option.some.injEq, Prod.mk.injEq] at h
        obtain ⟨rfl, rfl⟩ := h
        obtain ⟨A, cap, ha, hle, hc⟩ := hx
        simp only [List.cons.injEq, and_true] at ha
        by_cases hne : xs = []
        · subst hne
          subst ha
          refine ⟨[], rfl, fun w2 _ => ?_, by simp [VRs]⟩
          cases A with
          | none => simp [Builtin.firstCells]
          | some a => simp [Builtin.firstCells, loadCells, loadCellsFrom]
        · obtain ⟨a, rfl, him, hs, hcs⟩ := hc hne
          have hlen : ((List.range (xs.length * csz t')).map fun k => (w.cell? (a.add k)).getD undef).length = xs.length * csz t' := by simp
          refine slice a xs.length cap xs _ hlen rfl (fun j u hj => ?_) (VRs_flat (fun i hi => ?_) hlen) ha
          · have hjl : j < xs.length * csz t' := by
              have := (List.getElem?_eq_some_iff.1 hj).1
              rwa [hlen] at this
            have hp := csz_pos t'
            have hi : j / csz t' < xs.length := Nat.div_lt_of_lt_mul (by rw [Nat.mul_comm]; exact hjl)
            obtain ⟨us, hus, hcu⟩ := hcs _ hi
            have hm : j % csz t' < us.length := by rw [IR_len hus]; exact Nat.mod_lt _ hp
            have := hcu (j % csz t') us[j % csz t'] (by simp [hm])
            rw [Nat.div_add_mod' ] at this
            rw [List.getElem?_map, List.getElem?_range hjl] at hj
            simp only [Option.map_some, Option.some.injEq] at hj
            rw [← hj, this]; rfl
          · obtain ⟨us, hus, hcu⟩ := hcs i hi
            refine ⟨us, hus, fun j u hj => ?_⟩
            have hju : j < csz t' := by rw [← IR_len hus]; exact (List.getElem?_eq_some_iff.1 hj).1
            have hle2 : (i + 1) * csz t' ≤ xs.length * csz t' := Nat.mul_le_mul_right _ hi
            rw [Nat.succ_mul] at hle2
            rw [List.getElem?_map, List.getElem?_range (by omega), Option.map_some, hcu j u hj]
            rfl
      · cases h
    · simp only [Option.some.injEq, Prod.mk.injEq] at h
      obtain ⟨rfl, rfl⟩ := h
      obtain ⟨A, hx⟩ := hx
      exact empty A hx _ rfl
    · cases h
end Go.Proofs.YtfogafinohfpfaaGreatDoorV
