/- That each operation on abstract values does what the machine's operation does. -/
import Derived.Test.YtoahoagfkpfhnaaVd
import Derived.Laws.Slices
import Derived.Laws.Strings
import Derived.Laws.BytesString
import Derived.Laws.Small
namespace Go.Proofs.YtoahoagfkpfhnaaV
open Go.RowKit
set_option linter.unusedVariables false
set_option linter.unusedSimpArgs false

variable {P : Program} {w : World} {Im : Nat → Prop} {ρ : Nat → Loc} {m : Rows}

theorem get_val {c d d'} (h : (OR.val c d).get = some d') : c = true ∧ d' = d := by
  cases c with
  | false => cases h
  | true => exact ⟨rfl, (Option.some.inj h).symm⟩
theorem get_pure {v d} (h : (pure1 v).get = some d) : d = ⟨v, [], []⟩ := (get_val h).2

theorem ofVal1_ok {ty v x} (h : ofVal1 P ty v = some x) : VR w Im ρ x v := by
  unfold ofVal1 at h
  split at h
  case h_5 =>
    cases hx : elemT P ty with
    | none => simp [hx] at h
    | some e =>
      simp only [hx, Option.map_some, Option.some.injEq] at h
      subst h
      exact ⟨none, rfl⟩
  all_goals first
    | (cases h; rfl)
    | cases h

theorem ofVals_ok : ∀ {ts vs l}, ofVals P ts vs = some l → VRs w Im ρ l vs
  | [], [], l, h => by cases h; simp [VRs]
  | [], v :: vs, l, h => by simp [ofVals] at h
  | t :: ts, [], l, h => by simp [ofVals] at h
  | t :: ts, v :: vs, l, h => by
    simp only [ofVals] at h
    split at h
    · rename_i x l' hx hl
      cases h
      exact VRs_cons.2 ⟨v, vs, rfl, ofVal1_ok hx, ofVals_ok hl⟩
    · cases h

theorem ofVal_ok {ty v x} (h : ofVal P ty v = some x) : VR w Im ρ x v := by
  unfold ofVal at h
  split at h
  · rename_i cs
    cases hx : ofVals P (cellTys P 20 ty) cs.toList with
    | none => simp [hx] at h
    | some l =>
      simp only [hx, Option.map_some, Option.some.injEq] at h
      subst h
      exact ⟨cs, rfl, ofVals_ok hx⟩
  · exact ofVal1_ok h

theorem evO_ok {t : List AV} {a : Act} (ht : VRs w Im ρ t a.tmps.toList) {ty x y} (h : evO P t ty x = some y) : VR w Im ρ y (a.eval x) := by
  cases x with
  | tmp n =>
    simp only [evO, Option.some.injEq] at h
    subst h
    have := VRs_get ht n
    simpa [Act.eval, Array.getD_eq_getD_getElem?, List.getD] using this
  | const v => exact ofVal_ok h
  | global g => simp [evO] at h
  | func f =>
    simp only [evO, Option.some.injEq] at h
    subst h
    exact ⟨#[], rfl, by simp [VRs]⟩

theorem evL_ok {t : List AV} {a : Act} (ht : VRs w Im ρ t a.tmps.toList) : ∀ {ts xs l}, evL P t ts xs = some l → VRs w Im ρ l (xs.map a.eval)
  | _, [], l, h => by
    have : l = [] := by cases ‹List TypeId› <;> simpa [evL, eq_comm] using h
    subst this; simp [VRs]
  | [], x :: xs, l, h => by
    simp only [evL] at h
    split at h
    · rename_i v r hx hl
      cases h
      exact VRs_cons.2 ⟨_, _, rfl, evO_ok ht hx, evL_ok ht hl⟩
    · cases h
  | ty :: ts, x :: xs, l, h => by
    simp only [evL] at h
    split at h
    · rename_i v r hx hl
      cases h
      exact VRs_cons.2 ⟨_, _, rfl, evO_ok ht hx, evL_ok ht hl⟩
    · cases h

/-- An operation that turns no memory. -/
def Quiet (w : World) (Im : Nat → Prop) (ρ : Nat → Loc) (P : Program) (d : Dl) (s : Sem Value) : Prop :=
  d.up = [] ∧ ∃ v, s.run P w = .ok v w ∧ VR w Im ρ d.v v

theorem iArith_ok {op k x y d} (h : (iArith op k x y).get = some d) (hs : op ≠ .shl) (hs' : op ≠ .shr) (xt : TypeId) : Quiet w Im ρ P d (binOp op xt (.int k x) (.int k y)) := by
  cases op <;> simp only [iArith] at h <;> try contradiction
  case quo =>
    obtain ⟨hc, rfl⟩ := get_val h
    have hy : ¬ y = 0 := by simpa using hc
    exact ⟨rfl, _, by simp [binOp, Op.intDiv, hy], rfl⟩
  case rem =>
    obtain ⟨hc, rfl⟩ := get_val h
    have hy : ¬ y = 0 := by simpa using hc
    exact ⟨rfl, _, by simp [binOp, Op.intDiv, hy], rfl⟩
  all_goals first
    | (obtain rfl := get_pure h; exact ⟨rfl, _, by simp [binOp, Op.intArith, Op.intBits, Op.intCmp, leI_eq, ltI_eq]; done, rfl⟩)
    | (cases h; done)

theorem iShift_ok {op k x y d} (h : (iShift op k x y).get = some d) (yk : IntKind) (xt : TypeId) : Quiet w Im ρ P d (binOp op xt (.int k x) (.int yk y)) := by
  cases op <;> simp only [iShift] at h <;> try (cases h; done)
  all_goals
    obtain ⟨hc, rfl⟩ := get_val h
    have hy : ¬ y < 0 := by simpa [ltI_eq] using hc
    exact ⟨rfl, _, by simp [binOp, Op.shift, hy], rfl⟩

theorem sBin_ok {op x y d} (h : (sBin op x y).get = some d) (xt : TypeId) : Quiet w Im ρ P d (binOp op xt (.string x) (.string y)) := by
  cases op <;> simp only [sBin] at h <;> try (cases h; done)
  case add =>
    obtain ⟨hc, rfl⟩ := get_val h
    have hy : (x.size : Int) + y.size ≤ 9223372036854775807 := by simpa [leI_eq] using hc
    have hy' : ¬ ((x.size + y.size : Nat) : Int) > IntKind.i64.max := by
      have : IntKind.i64.max = 9223372036854775807 := by decide
      rw [this]; omega
    refine ⟨rfl, _, ?_, rfl⟩
    simp only [binOp, Op.stringOp, if_neg hy']
    rfl
  all_goals (obtain rfl := get_pure h; exact ⟨rfl, _, by simp [binOp, Op.stringOp]; done, rfl⟩)

theorem bin_ok {op xt x y a b d} (h : (bin P op xt x y).get = some d) (hx : VR w Im ρ x a) (hy : VR w Im ρ y b) : Quiet w Im ρ P d (binOp op xt a b) := by
  unfold bin at h
  split at h
  · obtain rfl := hx
    obtain rfl := hy
    split at h
    · exact iShift_ok h _ _
    · exact iShift_ok h _ _
    · rename_i h1 h2
      split at h
      · rename_i hk; subst hk
        exact iArith_ok h (fun e => h1 e) (fun e => h2 e) _
      · cases h
  · obtain rfl := hx
    obtain rfl := hy
    exact sBin_ok h _
  · obtain rfl := hx
    obtain rfl := hy
    split at h
    · rename_i hu
      split at h
      · obtain rfl := get_pure h
        exact ⟨rfl, _, run_eql_bool w _ _ _ hu, rfl⟩
      · obtain rfl := get_pure h
        exact ⟨rfl, _, run_neq_bool w _ _ _ hu, rfl⟩
      · cases h
    · cases h
  · cases h

/-- What is looked at ahead of '==' is nothing here. -/
theorem guard_ok {op xt x y a b d} (h : (bin P op xt x y).get = some d) (hx : VR w Im ρ x a) (hy : VR w Im ρ y b) (ox oy : Operand) : (eqGuard op xt ox oy a b).run P w = .ok () w := by
  unfold bin at h
  split at h
  · obtain rfl := hx
    obtain rfl := hy
    unfold eqGuard; split <;> rfl
  · obtain rfl := hx
    obtain rfl := hy
    unfold eqGuard; split <;> rfl
  · obtain rfl := hx
    obtain rfl := hy
    unfold eqGuard; split <;> rfl
  · cases h

theorem un_ok {op x a d} (h : (un op x).get = some d) (hx : VR w Im ρ x a) : Quiet w Im ρ P d (Op.unary op a) := by
  unfold un at h
  split at h
  · obtain rfl := hx; obtain rfl := get_pure h; exact ⟨rfl, _, rfl, rfl⟩
  · obtain rfl := hx; obtain rfl := get_pure h; exact ⟨rfl, _, rfl, rfl⟩
  · obtain rfl := hx; obtain rfl := get_pure h; exact ⟨rfl, _, rfl, rfl⟩
  · cases h

theorem pick2_ok {c x y a b} (hx : VR w Im ρ x a) (hy : VR w Im ρ y b) : VR w Im ρ (pick2 c x y) (if c = true then a else b) := by
  unfold pick2
  split
  · obtain rfl := hx; obtain rfl := hy; cases c <;> rfl
  · obtain rfl := hx; obtain rfl := hy
    split
    · rename_i e; subst e; cases c <;> rfl
    · cases c
      · exact rfl
      · exact rfl
  · obtain rfl := hx; obtain rfl := hy; cases c <;> rfl
  · cases c
    · exact hy
    · exact hx

/-! ### Lengths, indexes, fields -/
theorem RowOK.count {r x} (h : RowOK w Im ρ r x) : (∃ g cap, ρ r = .blk g x.count cap) ∨ (ρ r = .virt ∧ x.count = 0) := by
  obtain ⟨_, _, h⟩ := h
  cases e : ρ r with
  | unborn => rw [e] at h; exact h.elim
  | gone => rw [e] at h; exact h.elim
  | virt => rw [e] at h; exact .inr ⟨rfl, h⟩
  | blk g n cap =>
    rw [e] at h
    obtain ⟨cur, fr, _, _, hc, _⟩ := h
    exact .inl ⟨g, cap, by rw [hc]⟩

theorem cellsOf_run {t : TypeId} (h : 0 < P.cellsOf t) : (sizeOf t).run P w = .ok (P.cellsOf t) w := by
  unfold Program.cellsOf at h ⊢
  cases hi : P.info? t with
  | none => simp [hi] at h
  | some i => simp [sizeOf, typeInfo, hi]

theorem cellsOf_run' {t : TypeId} (h : (P.info? t).isSome = true) : (sizeOf t).run P w = .ok (P.cellsOf t) w := by
  unfold Program.cellsOf
  cases hi : P.info? t with
  | none => simp [hi] at h
  | some i => simp [sizeOf, typeInfo, hi]

theorem opLen_ok {t x a d} (h : (opLen P m t x).get = some d) (hr : RS w Im ρ m) (hx : VR w Im ρ x a) (ty : TypeId) (ts : List TypeId) : Quiet w Im ρ P d (Builtin.len_ (t :: ts).toArray ty #[a]) := by
  unfold opLen at h
  split at h
  · rename_i hu
    obtain rfl := hx; obtain rfl := get_pure h
    exact ⟨rfl, _, by simp [Builtin.len_, run_underlying hu, goInt], rfl⟩
  · rename_i e r sz hu
    split at h
    · rename_i row hl
      obtain ⟨_, rfl⟩ := get_val h
      rcases (hr.row _ _ hl).count with ⟨g, cap, hg⟩ | ⟨hv, h0⟩
      · simp only [VR, hg] at hx
        subst hx
        exact ⟨rfl, _, by simp [Builtin.len_, run_underlying hu, goInt], rfl⟩
      · simp only [VR, hv] at hx
        obtain ⟨A, rfl⟩ := hx
        exact ⟨rfl, .int .i64 0, by simp [Builtin.len_, run_underlying hu, goInt], by simp [h0, VR]⟩
    · cases h
  · rename_i e r sz off len hu
    split at h
    · rename_i row hl
      obtain ⟨_, rfl⟩ := get_val h
      rcases (hr.row _ _ hl).count with ⟨g, cap, hg⟩ | ⟨hv, h0⟩
      · simp only [VR, hg] at hx
        obtain ⟨_, A, c, rfl, _⟩ := hx
        exact ⟨rfl, _, by simp [Builtin.len_, run_underlying hu, goInt], rfl⟩
      · simp only [VR, hv] at hx
        obtain ⟨rfl, _, A, rfl⟩ := hx
        exact ⟨rfl, .int .i64 0, by simp [Builtin.len_, run_underlying hu, goInt], rfl⟩
    · cases h
  · rename_i e t' xs hu
    obtain rfl := get_pure h
    obtain ⟨A, cap, ha, _⟩ := hx
    simp only [List.cons.injEq, and_true] at ha
    subst ha
    exact ⟨rfl, _, by simp [Builtin.len_, run_underlying hu, goInt], rfl⟩
  · rename_i e e' hu
    obtain rfl := get_pure h
    obtain ⟨A, rfl⟩ := hx
    exact ⟨rfl, .int .i64 0, by simp [Builtin.len_, run_underlying hu, goInt], rfl⟩
  · cases h
end Go.Proofs.YtoahoagfkpfhnaaV
