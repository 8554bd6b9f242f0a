/- That each operation on abstract values does what the machine's operation does: memory that is made and written. -/
import Derived.Test.YtfogafinohfpfaaGreatDoorVf
namespace Go.Proofs.YtfogafinohfpfaaGreatDoorV
open Go.RowKit
set_option linter.unusedVariables false
set_option linter.unusedSimpArgs false

variable {P : Program} {w : World} {Im : Nat → Prop} {ρ : Nat → Loc} {m : Rows}

/-- An operation, told whole. -/
def Does (nb : Nat) (Im : Nat → Prop) (ρ : Nat → Loc) (m : Rows) (w : World) (P : Program) (d : Dl) (s : Sem Value) : Prop :=
  ∃ v w' Im' ρ', s.run P w = .ok v w' ∧ Eff nb Im ρ w Im' ρ' (upR m d.up) w' ∧ VR w' Im' ρ' d.v v

theorem Quiet.does {nb d} {s : Sem Value} (h : Quiet w Im ρ P d s) (hr : RS w Im ρ m) : Does nb Im ρ m w P d s := by
  obtain ⟨hu, v, hrun, hv⟩ := h
  exact ⟨v, w, Im, ρ, hrun, by rw [hu]; exact Eff.none hr, hv⟩

theorem upR_append : ∀ (u u' : List (Nat × Option Row)) (m : Rows), upR m (u ++ u') = upR (upR m u) u'
  | [], _, _ => rfl
  | (r, some x) :: u, u', m => upR_append u u' _
  | (r, none) :: u, u', m => upR_append u u' _

theorem mat_ok {lim nb0 : Nat} (hlim : lim ≤ nb0 + 64) : ∀ (l : List AV) (nb : Nat) (l' : List AV) (m' : Rows) (vs : List Value) (m : Rows) (ρ : Nat → Loc), mat P lim nb l = some (l', m') → RS w Im ρ m →
    VRs w Im ρ l vs → (∀ q, nb ≤ q → q < lim → ρ q = .unborn) → nb0 ≤ nb →
    ∃ ρ', Eff nb0 Im ρ w Im ρ' (upR m (ups m')) w ∧ VRs w Im ρ' l' vs ∧ ∀ q, ¬ (nb ≤ q ∧ q < lim) → ρ' q = ρ q
  | [], nb, l', m', vs, m, ρ, h, hr, hv, hf, hb => by
    simp only [mat, Option.some.injEq, Prod.mk.injEq] at h
    obtain ⟨rfl, rfl⟩ := h
    exact ⟨ρ, Eff.none hr, hv, fun _ _ => rfl⟩
  | x :: l, nb, l', m', vs, m, ρ, h, hr, hv, hf, hb => by
    simp only [mat] at h
    split at h
    · rename_i l1 m1 hl
      obtain ⟨v, r, rfl, h1, h2⟩ := VRs_cons.1 hv
      split at h
      · rename_i e
        split at h
        · rename_i t ht
          split at h
          · rename_i hc
            simp only [Option.some.injEq, Prod.mk.injEq] at h
            obtain ⟨rfl, rfl⟩ := h
            have hu : ρ nb = .unborn := hf nb (Nat.le_refl _) hc.1
            have ev := Eff.virt (nb := nb0) hr hu ⟨hb, by omega⟩ (x := ⟨e, csz t, .list t []⟩) hc.2 rfl rfl
            obtain ⟨ρ', hE, hv', hk⟩ := mat_ok hlim l (nb + 1) l1 m1 r _ _ hl ev.rs (VRs_mono (fun _ _ => rfl) (fun _ h => h) ev.ext _ _ h2)
              (fun q a b => by rw [upd_other (by omega)]; exact hf q (by omega) b) (by omega)
            refine ⟨ρ', ev.trans hE, VRs_cons.2 ⟨v, r, rfl, ?_, hv'⟩, fun q hq => ?_⟩
            · simp only [VR]
              rw [hk nb (by omega), upd_same]
              exact h1
            · rw [hk q (by omega), upd_other (by intro e; subst e; exact hq ⟨Nat.le_refl _, hc.1⟩)]
          · cases h
        · cases h
      · rename_i hx
        simp only [Option.some.injEq, Prod.mk.injEq] at h
        obtain ⟨rfl, rfl⟩ := h
        obtain ⟨ρ', hE, hv', hk⟩ := mat_ok hlim l (nb + 1) l1 m1 r m ρ hl hr h2 (fun q a b => hf q (by omega) b) (by omega)
        exact ⟨ρ', hE, VRs_cons.2 ⟨v, r, rfl, VR_mono (fun _ _ => rfl) (fun _ h => h) hE.ext _ _ h1, hv'⟩, fun q hq => hk q (by omega)⟩
    · cases h

theorem matV_ok {nb x x' m' v} (h : matV P (nb + 64) nb x = some (x', m')) (hr : RS w Im ρ m) (hv : VR w Im ρ x v) (hf : ∀ q, nb ≤ q → q < nb + 64 → ρ q = .unborn) :
    ∃ ρ', Eff nb Im ρ w Im ρ' (upR m (ups m')) w ∧ VR w Im ρ' x' v := by
  unfold matV at h
  split at h
  · split at h
    · rename_i l' m1 hl
      simp only [Option.some.injEq, Prod.mk.injEq] at h
      obtain ⟨rfl, rfl⟩ := h
      obtain ⟨cs, rfl, hv⟩ := hv
      obtain ⟨ρ', hE, hv', _⟩ := mat_ok (Nat.le_refl _) _ nb _ _ _ m ρ hl hr hv hf (Nat.le_refl _)
      exact ⟨ρ', hE, cs, rfl, hv'⟩
    · cases h
  · split at h
    · rename_i y m1 hl
      simp only [Option.some.injEq, Prod.mk.injEq] at h
      obtain ⟨rfl, rfl⟩ := h
      obtain ⟨ρ', hE, hv', _⟩ := mat_ok (Nat.le_refl _) _ nb _ _ _ m ρ hl hr (VRs_one.2 ⟨v, rfl, hv⟩) hf (Nat.le_refl _)
      obtain ⟨u, hu, hv''⟩ := VRs_one.1 hv'
      simp only [List.cons.injEq, and_true] at hu
      subst hu
      exact ⟨ρ', hE, hv''⟩
    · cases h

/-! ### One cell -/
theorem atom_one {x v} (hr : RS w Im ρ m) (h : VR w Im ρ x v) (ha : x.isAtom = true) (hl : ∀ r ∈ x.refs, (look m r).isSome = true) : v.oneCell' = true := by
  have live : ∀ r, r ∈ x.refs → (∃ g n cap, ρ r = .blk g n cap) ∨ ρ r = .virt := by
    intro r hm
    obtain ⟨row, hrow⟩ := Option.isSome_iff_exists.1 (hl r hm)
    rcases (hr.row _ _ hrow).count with ⟨g, cap, hg⟩ | ⟨hv, _⟩
    · exact .inl ⟨g, _, cap, hg⟩
    · exact .inr hv
  cases x with
  | dead => simp [AV.isAtom] at ha
  | agg => simp [AV.isAtom] at ha
  | tup => simp [AV.isAtom] at ha
  | int => obtain rfl := h; rfl
  | bool => obtain rfl := h; rfl
  | str => obtain rfl := h; rfl
  | nilp => obtain rfl := h; rfl
  | nili => obtain rfl := h; rfl
  | nilf => obtain rfl := h; rfl
  | nilm => obtain rfl := h; rfl
  | ptr r i sz j =>
    simp only [VR] at h
    rcases live r (by simp [AV.refs]) with ⟨g, n, cap, e⟩ | e
    · rw [e] at h; rw [h.1]; rfl
    · rw [e] at h; exact h.elim
  | icell l => obtain ⟨a, us, rfl, _⟩ := h; rfl
  | nils e => obtain ⟨A, rfl⟩ := h; rfl
  | own r sz =>
    simp only [VR] at h
    rcases live r (by simp [AV.refs]) with ⟨g, n, cap, e⟩ | e
    · rw [e] at h; rw [h]; rfl
    · rw [e] at h; obtain ⟨A, rfl⟩ := h; rfl
  | sl r sz off len =>
    simp only [VR] at h
    rcases live r (by simp [AV.refs]) with ⟨g, n, cap, e⟩ | e
    · rw [e] at h; obtain ⟨_, A, c, rfl, _⟩ := h; rfl
    · rw [e] at h; obtain ⟨_, _, A, rfl⟩ := h; rfl
  | imm t xs =>
    obtain ⟨A, cap, e, _⟩ := h
    simp only [List.cons.injEq, and_true] at e
    subst e; rfl
  | iface t x => obtain ⟨u, rfl, _⟩ := h; rfl
  | fn f l => obtain ⟨cs, rfl, _⟩ := h; unfold fval; cases mB f <;> rfl
  | oref k r =>
    simp only [VR] at h
    rcases live r (by simp [AV.refs]) with ⟨g, n, cap, e⟩ | e
    · rw [e] at h
      cases k with
      | opt => obtain ⟨_, _, h⟩ := h; rcases h with h | h <;> (subst h; rfl)
      | data => obtain ⟨⟨p, h⟩, _⟩ := h; subst h; rfl
      | buf => subst h; rfl
      | yield => subst h; rfl
      | map => subst h; rfl
      | iter => subst h; rfl
    · rw [e] at h
      cases k with
      | data => subst h; rfl
      | buf => subst h; rfl
      | _ => exact h.elim

theorem atoms_one {l vs} (hr : RS w Im ρ m) (h : VRs w Im ρ l vs) (ha : l.all AV.isAtom = true) (hl : liveL m l = true) : ∀ v ∈ vs, v.oneCell' = true := by
  induction l generalizing vs with
  | nil => simp only [VRs] at h; subst h; simp
  | cons x l ih =>
    obtain ⟨v, r, rfl, h1, h2⟩ := VRs_cons.1 h
    simp only [List.all_cons, Bool.and_eq_true] at ha
    simp only [liveL, AV.refsL, List.all_append, Bool.and_eq_true, List.all_eq_true] at hl
    intro u hu
    rcases List.mem_cons.1 hu with rfl | hu
    · exact atom_one hr h1 ha.1 hl.1
    · exact ih h2 ha.2 (by simp only [liveL, List.all_eq_true]; exact hl.2) u hu

theorem cells_ok {x v} (hr : RS w Im ρ m) (h : VR w Im ρ x v) (ha : x.cells.all AV.isAtom = true) (hl : liveL m x.cells = true) :
    VRs w Im ρ x.cells v.cells.toList ∧ ∀ u ∈ v.cells.toList, u.oneCell' = true := by
  cases x with
  | agg l =>
    obtain ⟨cs, rfl, hv⟩ := h
    exact ⟨hv, atoms_one hr hv ha hl⟩
  | _ =>
    have h1 := atom_one hr h (by simpa [AV.cells] using ha) (by simpa [liveL, AV.cells, AV.refsL] using hl)
    have hc : v.cells = #[v] := by cases v <;> first | rfl | (simp [Value.oneCell'] at h1)
    rw [hc]
    exact ⟨VRs_one.2 ⟨v, rfl, h⟩, by simpa using h1⟩

theorem NF_zero (n : Nat) : NF (0, 0) n := fun j _ h => by simp at h

theorem kp_alloc (w : World) (o : Obj) : Kp (fun _ => False) w (w.alloc o) := Kp.alloc _ _ _

theorem boxIt_ok {nb e cs d v} (h : (boxIt P m nb e cs).get = some d) (hr : RS w Im ρ m) (hv : VRs w Im ρ cs v) (hf : ∀ q, nb ≤ q → q < nb + 64 → ρ q = .unborn) :
    Does nb Im ρ m w P d (do pure (.pointer (some (← newRow e v.toArray)))) := by
  unfold boxIt at h
  split at h
  · rename_i l m' hl
    split at h
    · rename_i hc
      simp only [Bool.and_eq_true, leI_eq, ltI_eq, decide_eq_true_eq] at hc
      obtain ⟨_, rfl⟩ := get_val h
      obtain ⟨ρ1, hE, hv1, hk⟩ := mat_ok (nb0 := nb) (Nat.le_refl _) _ (nb + 1) _ _ _ m ρ hl hr hv (fun q a b => hf q (by omega) b) (by omega)
      have hu : ρ1 nb = .unborn := by rw [hk nb (by omega)]; exact hf nb (Nat.le_refl _) (by omega)
      have hlen := VRs_len hv1
      have hcount : ({ e := e, sz := l.length, c := RC.cells l } : Row).count = 1 := Nat.div_self hc.2
      have he2 := Eff.new (nb := nb) (w' := w.alloc (.cells v.toArray e)) hE.rs hu ⟨Nat.le_refl _, by omega⟩ (x := ⟨e, l.length, .cells l⟩) (cur := v.toArray) (cap := 1) hc.2
        (by show l.length = _ * l.length; rw [hcount, Nat.one_mul]) (by rw [hcount]; exact Nat.le_refl _) (by decide) (by simp [hlen])
        (by rw [hcount]; simp only [RC.flat, Nat.one_mul]; rw [List.take_of_length_le (by simp [hlen])]; exact hv1) (fr := (0, 0)) (NF_zero _) (kp_alloc _ _) (g0 := w.heap.size) (Nat.le_refl _) (heap_alloc_new w _)
      rw [hcount] at he2
      refine ⟨.pointer (some ⟨w.heap.size, 0, none⟩), w.alloc (.cells v.toArray e), Im, upd ρ1 nb (.blk w.heap.size 1 1), by simp [newRow], ?_, ?_⟩
      · show Eff nb Im ρ w _ _ (upR m (ups m' ++ [(nb, some ⟨e, l.length, .cells l⟩)])) _
        rw [upR_append]
        exact hE.trans he2
      · simp only [VR, upd_same]
        exact ⟨by simp, by omega⟩
    · cases h
  · cases h

theorem zeroOf_ok {t z} (h : zeroOf P t = some z) : ∃ zv i, (zeroValue t).run P w = .ok zv w ∧ VR w Im ρ z zv ∧ P.info? t = some i ∧ i.zero = some zv := by
  unfold zeroOf at h
  split at h
  · rename_i i hi
    split at h
    · rename_i zv hz
      exact ⟨zv, i, by simp [zeroValue, typeInfo, hi, hz], ofVal_ok h, hi, hz⟩
    · cases h
  · cases h

theorem boxGuard {nb e cs d} (h : (boxIt P m nb e cs).get = some d) : cs.all AV.isAtom = true ∧ liveL m cs = true := by
  unfold boxIt at h
  split at h
  · split at h
    · rename_i hc
      simp only [Bool.and_eq_true] at hc
      exact ⟨hc.1.1, hc.1.2⟩
    · cases h
  · cases h

theorem opBox_ok {nb e x v d} (h : (boxIt P m nb e x.cells).get = some d) (hr : RS w Im ρ m) (hv : VR w Im ρ x v) (hf : ∀ q, nb ≤ q → q < nb + 64 → ρ q = .unborn) :
    Does nb Im ρ m w P d (Instr.box e v) := by
  obtain ⟨ha, hl⟩ := boxGuard h
  have := boxIt_ok h hr (cells_ok hr hv ha hl).1 hf
  simpa [Instr.box, newVar] using this

theorem opAlloc_ok {nb e z d} (hz : zeroOf P e = some z) (h : (boxIt P m nb e z.cells).get = some d) (hr : RS w Im ρ m) (hf : ∀ q, nb ≤ q → q < nb + 64 → ρ q = .unborn) :
    Does nb Im ρ m w P d (Instr.alloc e true (.tuple #[])) := by
  obtain ⟨zv, i, hrun, hv, _⟩ := zeroOf_ok (w := w) (Im := Im) (ρ := ρ) hz
  obtain ⟨ha, hl⟩ := boxGuard h
  have := boxIt_ok h hr (cells_ok hr hv ha hl).1 hf
  obtain ⟨v, w', Im', ρ', h1, h2, h3⟩ := this
  refine ⟨v, w', Im', ρ', ?_, h2, h3⟩
  simp only [Instr.alloc, Sem.run_bind, hrun, Result.andThen_ok]
  simpa [newVar] using h1

theorem ofVal_self {e : TypeId} {zv : Value} {z : AV} {te : TypeId} (h : ofVal P e zv = some z) (hz : z.cells = [.nilp, .nils te]) : zv.cells = #[.pointer none, .slice none 0 0] := by
  unfold ofVal at h
  split at h
  · rename_i cs
    cases hl : ofVals P (cellTys P 20 e) cs.toList with
    | none => rw [hl] at h; cases h
    | some l =>
      rw [hl] at h
      simp only [Option.map_some, Option.some.injEq] at h
      subst h
      simp only [AV.cells] at hz
      subst hz
      have one : ∀ {ty v}, ofVal1 P ty v = some .nilp → v = .pointer none := by
        intro ty v h1
        unfold ofVal1 at h1
        split at h1 <;> first | rfl | (cases h1) | (cases hx : elemT P ty <;> rw [hx] at h1 <;> cases h1)
      have two : ∀ {ty v}, ofVal1 P ty v = some (.nils te) → v = .slice none 0 0 := by
        intro ty v h1
        unfold ofVal1 at h1
        split at h1 <;> first | rfl | (cases h1)
      generalize hts : cellTys P 20 e = ts at hl
      generalize hvs : cs.toList = vs at hl
      match ts, vs, hl with
      | [], [], hl => cases hl
      | [], _ :: _, hl => simp [ofVals] at hl
      | _ :: _, [], hl => simp [ofVals] at hl
      | t :: ts, v :: vs, hl =>
        simp only [ofVals] at hl
        split at hl
        · rename_i x l' hx hl'
          simp only [Option.some.injEq, List.cons.injEq] at hl
          obtain ⟨rfl, rfl⟩ := hl
          have hv := one hx
          subst hv
          match ts, vs, hl' with
          | [], [], hl' => cases hl'
          | [], _ :: _, hl' => simp [ofVals] at hl'
          | _ :: _, [], hl' => simp [ofVals] at hl'
          | t :: ts, v :: vs, hl' =>
            simp only [ofVals] at hl'
            split at hl'
            · rename_i x l' hx hl2
              simp only [Option.some.injEq, List.cons.injEq] at hl'
              obtain ⟨rfl, rfl⟩ := hl'
              have hv := two hx
              subst hv
              match ts, vs, hl2 with
              | [], [], _ =>
                show cs = _
                apply Array.ext'
                rw [hvs]
              | [], _ :: _, hl2 => simp [ofVals] at hl2
              | _ :: _, [], hl2 => simp [ofVals] at hl2
              | _ :: _, _ :: _, hl2 =>
                simp only [ofVals] at hl2
                split at hl2 <;> cases hl2
            · cases hl'
        · cases hl
  · exfalso
    cases z <;> simp [AV.cells] at hz <;> (unfold ofVal1 at h; split at h <;> first | (cases h) | (cases hx : elemT P e <;> rw [hx] at h <;> cases h))
    all_goals cases hz

theorem boxSelf_ok {nb e z d} (hz : zeroOf P e = some z) (h : (boxSelf P nb e z.cells).get = some d) (hr : RS w Im ρ m) (hf : ∀ q, nb ≤ q → q < nb + 64 → ρ q = .unborn) :
    Does nb Im ρ m w P d (Instr.alloc e true (.tuple #[])) := by
  obtain ⟨zv, i, hrun, hv, hi, hiz⟩ := zeroOf_ok (w := w) (Im := Im) (ρ := ρ) hz
  unfold boxSelf at h
  split at h
  · rename_i te hcs
    split at h
    · rename_i t ht
      split at h
      · rename_i hp
        obtain ⟨_, rfl⟩ := get_val h
        have hzo : ofVal P e zv = some z := by
          unfold zeroOf at hz
          rw [hi] at hz
          simp only [hiz] at hz
          exact hz
        have hcells := ofVal_self hzo hcs
        have hu1 : ρ (nb + 1) = .unborn := hf (nb + 1) (by omega) (by omega)
        have hE1 := Eff.virt (nb := nb) hr hu1 ⟨by omega, by omega⟩ (x := ⟨te, csz t, .list t []⟩) hp rfl rfl
        have hu : upd ρ (nb + 1) .virt nb = .unborn := by rw [upd_other (by omega)]; exact hf nb (Nat.le_refl _) (by omega)
        have hE2 := Eff.newB (nb := nb) (w' := w.alloc (.cells #[.pointer none, .slice none 0 0] e)) hE1.rs hu ⟨Nat.le_refl _, by omega⟩ (x := ⟨e, 2, .cells [.oref .opt nb, .oref .buf (nb + 1)]⟩) (n := 1) (cap := 1) (Nat.zero_lt_succ 1) (by simp [Row.okc, Row.count]) (kp_alloc _ _) (g0 := w.heap.size) (Nat.le_refl _)
          fun hk ρ' hE' hq => BOK.of rfl ⟨#[.pointer none, .slice none 0 0], (0, 0), heap_alloc_new w _, NF_zero _, by simp [Row.count], Nat.le_refl _, by decide, rfl, by
            have hq1 : ρ' (nb + 1) = .virt ∨ ρ' (nb + 1) = .gone := by
              rcases hE' (nb + 1) with e1 | e1 | e1
              · rw [upd_same] at e1; exact .inl e1
              · exact .inr e1
              · rw [upd_same] at e1; cases e1
            refine VRs_cons.2 ⟨_, _, rfl, ?_, VRs_cons.2 ⟨_, _, rfl, ?_, VRs_nil.2 rfl⟩⟩
            · simp only [VR, hq]; exact ⟨rfl, rfl, .inl rfl⟩
            · rcases hq1 with e1 | e1 <;> simp only [VR, e1, RK.nil]⟩
        refine ⟨.pointer (some ⟨w.heap.size, 0, none⟩), _, Im, _, ?_, hE1.trans hE2, ?_⟩
        · simp only [Instr.alloc, Sem.run_bind, hrun, Result.andThen_ok]
          simp [newVar, hcells, newRow]
        · simp only [VR, upd_same]
          exact ⟨by simp, by omega⟩
      · cases h
    · cases h
  · cases h

/-! ### Stores -/
theorem decV_ok {t : Ty} {x : AV} {l : List (El t)} {v : Value} (h : decV t x = some l) (hv : VR w Im ρ x v) : VR w Im ρ (.imm t l) v := by
  unfold decV at h
  split at h
  · split at h
    · rename_i e; subst e; cases h; exact hv
    · cases h
  · cases h
    obtain ⟨A, rfl⟩ := hv
    exact ⟨A, 0, rfl, Nat.le_refl _, fun hne => absurd rfl hne⟩
  · cases h

theorem decVN_ok {x : AV} {l : List Node} {v : Value} (h : decVN x = some l) (hv : VR w Im ρ x v) : VR w Im ρ (.imm .node l) v := by
  unfold decVN at h
  split at h
  · cases h; exact hv
  · cases h
    obtain ⟨A, rfl⟩ := hv
    exact ⟨A, 0, rfl, Nat.le_refl _, fun hne => absurd rfl hne⟩
  · cases h
theorem decVS_ok {x : AV} {l : List ByteArray} {v : Value} (h : decVS x = some l) (hv : VR w Im ρ x v) : VR w Im ρ (.imm .str l) v := by
  unfold decVS at h
  split at h
  · cases h; exact hv
  · cases h
    obtain ⟨A, rfl⟩ := hv
    exact ⟨A, 0, rfl, Nat.le_refl _, fun hne => absurd rfl hne⟩
  · cases h

theorem dec_ok : ∀ {t : Ty} {l : List AV} {x : El t} {r : List AV} {vs : List Value}, dec t l = some (x, r) → VRs w Im ρ l vs → VRs w Im ρ (enc t x ++ r) vs
  | .int k, l, x, r, vs, h, hv => by
    cases l with
    | nil => simp [dec] at h
    | cons a l => cases a <;> simp [dec] at h; obtain ⟨rfl, rfl, rfl⟩ := h; exact hv
  | .bool, l, x, r, vs, h, hv => by
    cases l with
    | nil => simp [dec] at h
    | cons a l => cases a <;> simp [dec] at h; obtain ⟨rfl, rfl⟩ := h; exact hv
  | .str, l, x, r, vs, h, hv => by
    cases l with
    | nil => simp [dec] at h
    | cons a l => cases a <;> simp [dec] at h; obtain ⟨rfl, rfl⟩ := h; exact hv
  | .list t, l, x, r, vs, h, hv => by
    cases l with
    | nil => simp [dec] at h
    | cons a l =>
      cases a <;> simp [dec] at h
      · obtain ⟨rfl, rfl⟩ := h
        obtain ⟨v, rs, rfl, h1, h2⟩ := VRs_cons.1 hv
        obtain ⟨A, rfl⟩ := h1
        exact VRs_cons.2 ⟨_, _, rfl, ⟨A, 0, rfl, Nat.le_refl _, fun hne => absurd rfl hne⟩, h2⟩
      · obtain ⟨⟨e, rfl⟩, rfl⟩ := h
        subst e
        exact hv
  | .node, l, x, r, vs, h, hv => by
    simp only [dec] at h
    unfold decN at h
    split at h
    case h_2 => cases h
    rename_i k s n a y z r'
    split at h
    · rename_i l' p' hl hp
      simp only [Option.some.injEq, Prod.mk.injEq] at h
      obtain ⟨rfl, rfl⟩ := h
      obtain ⟨_, _, rfl, e1, hv⟩ := VRs_cons.1 hv
      obtain ⟨_, _, rfl, e2, hv⟩ := VRs_cons.1 hv
      obtain ⟨_, _, rfl, e3, hv⟩ := VRs_cons.1 hv
      obtain ⟨_, _, rfl, e4, hv⟩ := VRs_cons.1 hv
      obtain ⟨v5, _, rfl, e5, hv⟩ := VRs_cons.1 hv
      obtain ⟨v6, _, rfl, e6, hv⟩ := VRs_cons.1 hv
      exact VRs_cons.2 ⟨_, _, rfl, e1, VRs_cons.2 ⟨_, _, rfl, e2, VRs_cons.2 ⟨_, _, rfl, e3, VRs_cons.2 ⟨_, _, rfl, e4, VRs_cons.2 ⟨_, _, rfl, decVN_ok hl e5, VRs_cons.2 ⟨_, _, rfl, decVS_ok hp e6, hv⟩⟩⟩⟩⟩⟩
    · cases h
  | .prod a b, l, x, r, vs, h, hv => by
    simp only [dec] at h
    split at h
    · rename_i x1 r1 h1
      split at h
      · rename_i y r2 h2
        cases h
        have e1 := dec_ok h1 hv
        obtain ⟨c1, c2, rfl, v1, v2⟩ := VRs_split e1
        have e2 := dec_ok h2 v2
        simp only [enc, List.append_assoc]
        exact VRs_append v1 e2
      · cases h
    · cases h

theorem VRs_splice {l cs : List AV} {vs us : List Value} (h : VRs w Im ρ l vs) (hc : VRs w Im ρ cs us) (off : Nat) :
    VRs w Im ρ (splice l off cs) (vs.take off ++ us ++ vs.drop (off + us.length)) := by
  unfold splice
  rw [VRs_len hc]
  exact VRs_append (VRs_append (VRs_take h _) hc) (VRs_drop h _)

theorem list_mid {α : Type} (L us : List α) (a j s : Nat) (h : j + us.length ≤ s) :
    L.take a ++ (((L.drop a).take s).take j ++ us ++ ((L.drop a).take s).drop (j + us.length)) ++ L.drop (a + s) = L.take (a + j) ++ us ++ L.drop (a + j + us.length) := by
  have e1 : L.take (a + j) = L.take a ++ (L.drop a).take j := by rw [List.take_add]
  have e2 : ((L.drop a).take s).take j = (L.drop a).take j := by rw [List.take_take, Nat.min_eq_left (by omega)]
  have e3 : L.drop (a + j + us.length) = ((L.drop a).take s).drop (j + us.length) ++ L.drop (a + s) := by
    rw [List.drop_take, List.drop_drop]
    have : a + (j + us.length) = a + j + us.length := by omega
    rw [this]
    have h2 : L.drop (a + s) = (L.drop (a + j + us.length)).drop (s - (j + us.length)) := by rw [List.drop_drop]; congr 1; omega
    rw [h2, List.take_append_drop]
  rw [e1, e2, e3]
  simp only [List.append_assoc]

theorem flatMap_set (t : Ty) : ∀ (xs : List (El t)) (i : Nat) (x : El t), i < xs.length →
    (xs.set i x).flatMap (enc t) = (xs.flatMap (enc t)).take (i * csz t) ++ enc t x ++ (xs.flatMap (enc t)).drop (i * csz t + csz t)
  | [], i, _, h => by simp at h
  | y :: l, 0, x, _ => by
    simp only [List.set_cons_zero, List.flatMap_cons, Nat.zero_mul, List.take_zero, List.nil_append, Nat.zero_add]
    rw [List.drop_append_of_le_length (by rw [enc_len]; exact Nat.le_refl _), List.drop_of_length_le (by rw [enc_len]; exact Nat.le_refl _)]
    rfl
  | y :: l, i + 1, x, h => by
    have hl : i < l.length := by simpa using h
    have e : (i + 1) * csz t = (enc t y).length + i * csz t := by rw [enc_len, Nat.succ_mul]; omega
    simp only [List.set_cons_succ, List.flatMap_cons, flatMap_set t l i x hl]
    have e2 : (i + 1) * csz t + csz t = (enc t y).length + (i * csz t + csz t) := by rw [e]; omega
    rw [e2, e, List.take_length_add_append, List.drop_length_add_append]
    simp only [List.append_assoc]

theorem run_storeCells_nf (P : Program) (g o : Nat) (t : TypeId) (fr : Nat × Nat) : ∀ (vs : List Value) (i : Nat) (cur : Array Value) (w : World), w.heap[g]? = some (.cells cur t fr) → NF fr cur.size → o + i + vs.length ≤ cur.size → (∀ v ∈ vs, v.oneCell' = true) →
    (storeCells ⟨g, o, none⟩ vs i).run P w = .ok () (w.setRow g (cur.toList.take (o + i) ++ vs ++ cur.toList.drop (o + i + vs.length)).toArray)
  | [], i, cur, w, hg, _, _, _ => by
    simp only [storeCells, List.append_nil, List.length_nil, Nat.add_zero, List.take_append_drop, Array.toArray_toList]
    rw [setRow_self w g cur t fr hg]
    rfl
  | v :: rest, i, cur, w, hg, hf, hl, h1 => by
    have hi : o + i < cur.size := by simp at hl; omega
    have hadd : (⟨g, o, none⟩ : Addr).add i = ⟨g, o + i, none⟩ := by unfold Addr.add; split <;> simp_all
    have hcell : w.cell? ⟨g, o + i, none⟩ = some cur[o + i] := by simp [World.cell?, hg, hi]
    have hfro : w.frozen? ⟨g, o + i, none⟩ = false := by
      have := hf (o + i) hi
      obtain ⟨lo, hi'⟩ := fr
      simp only [World.frozen?, hg]
      simpa using this
    have hst : (store ((⟨g, o, none⟩ : Addr).add i) v).run P w = .ok () (w.setRow g (cur.setIfInBounds (o + i) v)) := by
      rw [hadd, run_store P w _ v _ (h1 v (by simp)), hcell]
      simp [hfro, setCell_eq_setRow w g (o + i) cur t fr v hg]
    have ih := run_storeCells_nf P g o t fr rest (i + 1) (cur.setIfInBounds (o + i) v) (w.setRow g (cur.setIfInBounds (o + i) v)) (setRow_heap w g cur _ t _ hg) (by simpa using hf) (by simp at hl ⊢; omega) (fun x hx => h1 x (by simp [hx]))
    simp only [storeCells, Sem.run_bind, hst, Result.andThen_ok, ih, setRow_setRow]
    congr 3
    have e := list_seg_step cur.toList (o + i) v rest (by simp at hl ⊢; omega)
    simpa [Array.toList_setIfInBounds, Nat.add_assoc] using e

theorem kp_setRow (w : World) (g : Nat) (cs : Array Value) : Kp (fun b => b = g) w (w.setRow g cs) :=
  ⟨rfl, rfl, rfl, by simp [World.setRow], fun b _ hn => setRow_other w g b cs hn⟩

theorem take_mid {α : Type} (L us : List α) (off N : Nat) (h : off + us.length ≤ N) :
    (L.take off ++ us ++ L.drop (off + us.length)).take N = (L.take N).take off ++ us ++ (L.take N).drop (off + us.length) := by
  by_cases hL : off ≤ L.length
  · have e1 : (L.take off).length = off := by simp; omega
    rw [List.append_assoc, List.take_append, e1, List.take_of_length_le (by rw [e1]; omega), List.take_append, List.take_of_length_le (l := us) (by omega), List.take_take, Nat.min_eq_left (by omega), List.drop_take]
    rw [List.append_assoc]
    congr 2
    congr 1
    omega
  · have e1 : L.drop (off + us.length) = [] := List.drop_of_length_le (by omega)
    have e2 : L.take N = L := List.take_of_length_le (by omega)
    rw [e2, e1]
    simp only [List.append_nil]
    rw [List.take_of_length_le]
    simp; omega

/-- A row's new cells stand for what was stored. -/
theorem storeRow_ok {row row' : Row} {i j : Nat} {cs : List AV} {L us : List Value} (h : storeRow row i j cs = some row') (hok : row.okc) (hi : i < row.count) (hj : j + cs.length ≤ row.sz)
    (hL : VRs w Im ρ row.c.flat L) (hu : VRs w Im ρ cs us) :
    row'.e = row.e ∧ row'.sz = row.sz ∧ row'.okc ∧ row'.count = row.count ∧ VRs w Im ρ row'.c.flat (L.take (i * row.sz + j) ++ us ++ L.drop (i * row.sz + j + us.length)) ∧ row'.c.isObj = false := by
  have hlu := VRs_len hu
  have hlL := VRs_len hL
  have hle : (i + 1) * row.sz ≤ row.count * row.sz := Nat.mul_le_mul_right _ hi
  rw [Nat.succ_mul] at hle
  have hfl := Row.flat_len hok
  obtain ⟨e, sz, c⟩ := row
  cases c with
  | cells l =>
    simp only [storeRow, Option.some.injEq] at h
    subst h
    have hlen : (splice l (i * sz + j) cs).length = l.length := by
      simp only [RC.flat] at hfl
      simp only [splice, List.length_append, List.length_take, List.length_drop] at *
      omega
    refine ⟨rfl, rfl, ?_, ?_, VRs_splice hL hu _, rfl⟩
    · simp only [Row.okc, Row.count, hlen] at *
      exact hok
    · simp only [Row.count, hlen]
  | list t xs =>
    simp only [storeRow] at h
    split at h
    · rename_i x hx
      simp only [Option.some.injEq] at h
      subst h
      simp only [Row.okc] at hok
      simp only at hj hle hfl
      subst hok
      have hi' : i < xs.length := hi
      refine ⟨rfl, rfl, rfl, by simp [Row.count], ?_, rfl⟩
      have hE : VRs w Im ρ (enc t (xs.getD i (dfl t))) ((L.drop (i * csz t)).take (csz t)) := by
        rw [← flatMap_at t xs i hi']
        exact VRs_take (VRs_drop hL _) _
      have h2 := dec_ok hx (VRs_splice hE hu j)
      rw [List.append_nil] at h2
      have h3 : VRs w Im ρ ((xs.set i x).flatMap (enc t)) (L.take (i * csz t) ++ (((L.drop (i * csz t)).take (csz t)).take j ++ us ++ ((L.drop (i * csz t)).take (csz t)).drop (j + us.length)) ++ L.drop (i * csz t + csz t)) := by
        rw [flatMap_set t xs i x hi']
        exact VRs_append (VRs_append (VRs_take hL _) h2) (VRs_drop hL _)
      rw [list_mid L us _ _ _ (by omega)] at h3
      exact h3
    · cases h
  | _ => cases h

theorem opStore_ok {nb t x y a b d} (h : (opStore P m t nb x y).get = some d) (hr : RS w Im ρ m) (hx : VR w Im ρ x a) (hy : VR w Im ρ y b) (hf : ∀ q, nb ≤ q → q < nb + 64 → ρ q = .unborn) :
    d.v = .dead ∧ ∃ w' ρ', (Instr.storeAt t a b).run P w = .ok () w' ∧ Eff nb Im ρ w Im ρ' (upR m d.up) w' := by
  unfold opStore at h
  split at h
  · rename_i cs m' hmat
    split at h
    · rename_i hc
      simp only [Bool.and_eq_true, leI_eq, ltI_eq, decide_eq_true_eq] at hc
      obtain ⟨⟨⟨ha, hl⟩, hlen⟩, hpos⟩ := hc
      obtain ⟨hcells, hone⟩ := cells_ok hr hy ha hl
      split at h
      · rename_i r i sz j
        split at h
        · rename_i row hlook
          split at h
          · rename_i hsz
            split at h
            · rename_i row' hst
              obtain ⟨_, rfl⟩ := get_val h
              refine ⟨rfl, ?_⟩
              obtain ⟨ρ1, hE, hv1, hk⟩ := mat_ok (nb0 := nb) (Nat.le_refl _) _ nb _ _ _ m ρ hmat hr hcells hf (Nat.le_refl _)
              obtain ⟨g, n, cap, hg, rfl, hin⟩ := ptr_at hr hlook hx
              have hrnb : ¬ (nb ≤ r ∧ r < nb + 64) := fun e => by rw [hf r e.1 e.2] at hg; cases hg
              have hg1 : ρ1 r = .blk g n cap := by rw [hk r hrnb]; exact hg
              have hlook1 : ∃ row1, look (upR m (ups m')) r = some row1 := by
                cases e : look (upR m (ups m')) r with
                | none => rcases hE.rs.gone r e with e' | e' <;> rw [hg1] at e' <;> cases e'
                | some q => exact ⟨q, rfl⟩
              obtain ⟨hp, hokc, hb⟩ := hr.row _ _ hlook
              rw [hg] at hb
              obtain ⟨cur, fr, hh, hnf, hcn, hn, hm, hs, hv⟩ := BOK.cells hb (.inl (by omega))
              obtain ⟨hsz1, hjl⟩ := hsz
              subst hsz1
              have hvρ1 := VRs_mono (fun _ _ => rfl) (fun _ h => h) hE.ext _ _ hv
              have hlu := VRs_len hv1
              have hle : (i + 1) * row.sz ≤ n * row.sz := Nat.mul_le_mul_right _ hin
              rw [Nat.succ_mul] at hle
              have hle2 : n * row.sz ≤ cap * row.sz := Nat.mul_le_mul_right _ hn
              obtain ⟨s1, s2, s3, s4, s5, s6⟩ := storeRow_ok hst hokc (by rw [hcn]; exact hin) hjl hvρ1 hv1
              have hrun := run_storeCells_nf P g (i * row.sz + j) row.e fr b.cells.toList 0 cur w hh hnf (by omega) hone
              simp only [Nat.add_zero] at hrun
              have hbs : b.cells.size = P.cellsOf t := by rw [← Array.length_toList, hlu]; exact hlen
              obtain ⟨row1, hlk1⟩ := hlook1
              have hse : (cur.toList.take (i * row.sz + j) ++ b.cells.toList ++ cur.toList.drop (i * row.sz + j + b.cells.toList.length)).toArray.size = cur.size := by
                simp only [List.size_toArray, List.length_append, List.length_take, List.length_drop, Array.length_toList]
                simp only [Array.length_toList] at hlu
                omega
              have hset := Eff.set (nb := nb) (y := row') hE.rs hlk1 hg1 (w' := w.setRow g (cur.toList.take (i * row.sz + j) ++ b.cells.toList ++ cur.toList.drop (i * row.sz + j + b.cells.toList.length)).toArray)
                (by rw [s1]; exact setRow_heap w g cur _ row.e fr hh) (by rw [hse]; exact hnf) (kp_setRow _ _ _) (by rw [s2]; exact hp) s3 (by rw [s4, hcn]) hn hm (by rw [hse, s2]; exact hs)
                (by
                  rw [s2]
                  show VRs w Im ρ1 row'.c.flat ((cur.toList.take (i * row.sz + j) ++ b.cells.toList ++ cur.toList.drop (i * row.sz + j + b.cells.toList.length)).take (n * row.sz))
                  rw [take_mid _ _ _ _ (by omega)]
                  exact s5) s6
              refine ⟨w.setRow g (cur.toList.take (i * row.sz + j) ++ b.cells.toList ++ cur.toList.drop (i * row.sz + j + b.cells.toList.length)).toArray, ρ1, ?_, ?_⟩
              · simp only [Instr.storeAt, Instr.sureAddr, storeVar, Sem.run_bind, Sem.run_pure, Result.andThen_ok, cellsOf_run hpos, hbs, ne_eq, not_true_eq_false, if_false, hrun]
              · show Eff nb Im ρ w Im ρ1 (upR m (ups m' ++ [(r, some row')])) _
                rw [upR_append]
                exact hE.trans hset
            · cases h
          · cases h
        · cases h
      · cases h
    · cases h
  · cases h
end Go.Proofs.YtfogafinohfpfaaGreatDoorV
