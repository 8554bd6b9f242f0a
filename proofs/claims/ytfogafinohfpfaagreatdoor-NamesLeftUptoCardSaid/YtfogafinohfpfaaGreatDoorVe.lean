/- That each operation on abstract values does what the machine's operation does. -/
import Derived.Test.YtfogafinohfpfaaGreatDoorVd
import Derived.Laws.Slices
import Derived.Laws.Strings
import Derived.Laws.BytesString
import Derived.Laws.Small
import Derived.Laws.StructEq
namespace Go.Proofs.YtfogafinohfpfaaGreatDoorV
open Go.RowKit
set_option linter.unusedVariables false
set_option linter.unusedSimpArgs false

variable {P : Program} {w : World} {Im : Nat → Prop} {ρ : Nat → Loc} {m : Rows}

theorem get_val {c d d'} (h : (OR.val c d).get = some d') : c = true ∧ d' = d := by
  cases c with
  | false => cases h
  | true => exact ⟨rfl, (Option.some.inj h).symm⟩
theorem get_pure {v d} (h : (pure1 v).get = some d) : d = ⟨v, [], []⟩ := (get_val h).2

theorem ofVal1_ok {ty v x} (h : ofVal1 P ty v = some x) : VR w Im ρ x v := by
  unfold ofVal1 at h
  split at h
  case h_5 =>
    cases hx : elemT P ty with
    | none => simp [hx] at h
    | some e =>
      simp only [hx, Option.map_some, Option.some.injEq] at h
      subst h
      exact ⟨none, rfl⟩
  all_goals first
    | (cases h; rfl)
    | cases h

theorem ofVals_ok : ∀ {ts vs l}, ofVals P ts vs = some l → VRs w Im ρ l vs
  | [], [], l, h => by cases h; simp [VRs]
  | [], v :: vs, l, h => by simp [ofVals] at h
  | t :: ts, [], l, h => by simp [ofVals] at h
  | t :: ts, v :: vs, l, h => by
    simp only [ofVals] at h
    split at h
    · rename_i x l' hx hl
      cases h
      exact VRs_cons.2 ⟨v, vs, rfl, ofVal1_ok hx, ofVals_ok hl⟩
    · cases h

theorem ofVal_ok {ty v x} (h : ofVal P ty v = some x) : VR w Im ρ x v := by
  unfold ofVal at h
  split at h
  · rename_i cs
    cases hx : ofVals P (cellTys P 20 ty) cs.toList with
    | none => simp [hx] at h
    | some l =>
      simp only [hx, Option.map_some, Option.some.injEq] at h
      subst h
      exact ⟨cs, rfl, ofVals_ok hx⟩
  · exact ofVal1_ok h

theorem evO_ok {t : List AV} {a : Act} (ht : VRs w Im ρ t a.tmps.toList) {ty x y} (h : evO P t ty x = some y) : VR w Im ρ y (a.eval x) := by
  cases x with
  | tmp n =>
    simp only [evO, Option.some.injEq] at h
    subst h
    have := VRs_get ht n
    simpa [Act.eval, Array.getD_eq_getD_getElem?, List.getD] using this
  | const v => exact ofVal_ok h
  | global g => simp [evO] at h
  | func f =>
    simp only [evO] at h
    obtain ⟨hm, h⟩ : mB f = true ∧ AV.fn f [] = y := by
      cases hm : mB f with
      | true => rw [hm] at h; simp only [cond_true, Option.some.injEq] at h; exact ⟨rfl, h⟩
      | false => rw [hm] at h; cases h
    subst h
    exact ⟨#[], (fval_fn hm _).symm, by simp [VRs]⟩

theorem evL_ok {t : List AV} {a : Act} (ht : VRs w Im ρ t a.tmps.toList) : ∀ {ts xs l}, evL P t ts xs = some l → VRs w Im ρ l (xs.map a.eval)
  | _, [], l, h => by
    have : l = [] := by cases ‹List TypeId› <;> simpa [evL, eq_comm] using h
    subst this; simp [VRs]
  | [], x :: xs, l, h => by
    simp only [evL] at h
    split at h
    · rename_i v r hx hl
      cases h
      exact VRs_cons.2 ⟨_, _, rfl, evO_ok ht hx, evL_ok ht hl⟩
    · cases h
  | ty :: ts, x :: xs, l, h => by
    simp only [evL] at h
    split at h
    · rename_i v r hx hl
      cases h
      exact VRs_cons.2 ⟨_, _, rfl, evO_ok ht hx, evL_ok ht hl⟩
    · cases h

/-- An operation that turns no memory. -/
def Quiet (w : World) (Im : Nat → Prop) (ρ : Nat → Loc) (P : Program) (d : Dl) (s : Sem Value) : Prop :=
  d.up = [] ∧ ∃ v, s.run P w = .ok v w ∧ VR w Im ρ d.v v

theorem iArith_ok {op k x y d} (h : (iArith op k x y).get = some d) (hs : op ≠ .shl) (hs' : op ≠ .shr) (xt : TypeId) : Quiet w Im ρ P d (binOp op xt (.int k x) (.int k y)) := by
  cases op <;> simp only [iArith] at h <;> try contradiction
  case quo =>
    obtain ⟨hc, rfl⟩ := get_val h
    have hy : ¬ y = 0 := by simpa using hc
    exact ⟨rfl, _, by simp [binOp, Op.intDiv, hy], rfl⟩
  case rem =>
    obtain ⟨hc, rfl⟩ := get_val h
    have hy : ¬ y = 0 := by simpa using hc
    exact ⟨rfl, _, by simp [binOp, Op.intDiv, hy], rfl⟩
  all_goals first
    | (obtain rfl := get_pure h; exact ⟨rfl, _, by simp [binOp, Op.intArith, Op.intBits, Op.intCmp, leI_eq, ltI_eq]; done, rfl⟩)
    | (cases h; done)

theorem iShift_ok {op k x y d} (h : (iShift op k x y).get = some d) (yk : IntKind) (xt : TypeId) : Quiet w Im ρ P d (binOp op xt (.int k x) (.int yk y)) := by
  cases op <;> simp only [iShift] at h <;> try (cases h; done)
  all_goals
    obtain ⟨hc, rfl⟩ := get_val h
    have hy : ¬ y < 0 := by simpa [ltI_eq] using hc
    exact ⟨rfl, _, by simp [binOp, Op.shift, hy], rfl⟩

theorem sBin_ok {op x y d} (h : (sBin op x y).get = some d) (xt : TypeId) : Quiet w Im ρ P d (binOp op xt (.string x) (.string y)) := by
  cases op <;> simp only [sBin] at h <;> try (cases h; done)
  case add =>
    obtain ⟨hc, rfl⟩ := get_val h
    have hy : (x.size : Int) + y.size ≤ 9223372036854775807 := by simpa [leI_eq] using hc
    have hy' : ¬ ((x.size + y.size : Nat) : Int) > IntKind.i64.max := by
      have : IntKind.i64.max = 9223372036854775807 := by decide
      rw [this]; omega
    refine ⟨rfl, _, ?_, rfl⟩
    simp only [binOp, Op.stringOp, if_neg hy']
    rfl
  all_goals (obtain rfl := get_pure h; exact ⟨rfl, _, by simp [binOp, Op.stringOp]; done, rfl⟩)

theorem isAgg_run {t : TypeId} {ds : TypeDesc} (h : P.underlying t = some ds) : (isAgg t).run P w = .ok (isAggT P t) w := by
  unfold isAgg isAggT
  simp only [Sem.run_bind, run_underlying h, Result.andThen, h]
  cases ds <;> rfl

theorem eqLeaf_ok {t x y a b r} {n : Nat} (h : eqLeaf P t x y = some r) (hx : VR w Im ρ x a) (hy : VR w Im ρ y b) : isAggT P t = false ∧ (P.underlying t).isSome = true ∧ (Op.equalIn (n + 1) t a b).run P w = .ok r w := by
  unfold eqLeaf at h
  split at h
  · rename_i k k1 x k2 y hu
    obtain rfl := hx
    obtain rfl := hy
    split at h
    · rename_i hk
      subst hk
      cases h
      exact ⟨by simp [isAggT, hu], by simp [hu], run_equalIn_int w n t _ _ _ _ hu⟩
    · cases h
  · rename_i hu
    obtain rfl := hx
    obtain rfl := hy
    cases h
    exact ⟨by simp [isAggT, hu], by simp [hu], run_equalIn_string w n t _ _ hu⟩
  · rename_i hu
    obtain rfl := hx
    obtain rfl := hy
    cases h
    exact ⟨by simp [isAggT, hu], by simp [hu], run_equalIn_bool' w n t _ _ hu⟩
  · cases h

theorem part_run {t : TypeId} {cs : Array Value} {off : Nat} {v : Value} (ha : isAggT P t = false) (hu : (P.underlying t).isSome = true) (h : cs[off]? = some v) : (part t cs off).run P w = .ok v w := by
  obtain ⟨ds, hds⟩ := Option.isSome_iff_exists.1 hu
  simp [part, Sem.run_bind, isAgg_run hds, Result.andThen, ha, h]

theorem VRs_get? {l : List AV} {vs : List Value} (h : VRs w Im ρ l vs) : ∀ {n : Nat} {x : AV}, l[n]? = some x → ∃ v, vs[n]? = some v ∧ VR w Im ρ x v := by
  induction l generalizing vs with
  | nil => intro n x h; simp at h
  | cons y l ih =>
    obtain ⟨v, r, rfl, hv, hr⟩ := h
    intro n x hx
    cases n with
    | zero => simp at hx; subst hx; exact ⟨v, rfl, hv⟩
    | succ n => simpa using ih hr (by simpa using hx)

theorem eqAt_ok {xs ys : List AV} {us vs : Array Value} {f : Field} {r : Bool} {n : Nat} (h : eqAt P xs ys f = some r) (hx : VRs w Im ρ xs us.toList) (hy : VRs w Im ρ ys vs.toList) :
    f.name ≠ "_" ∧ ∃ a b, (part f.type us f.offset).run P w = .ok a w ∧ (part f.type vs f.offset).run P w = .ok b w ∧ (Op.equalIn (n + 1) f.type a b).run P w = .ok r w := by
  unfold eqAt at h
  split at h
  · rename_i a b ha hb
    obtain ⟨u, hu, hua⟩ := VRs_get? hx ha
    obtain ⟨v, hv, hvb⟩ := VRs_get? hy hb
    cases hn : f.name == "_" with
    | true => rw [hn] at h; cases h
    | false =>
      rw [hn] at h
      obtain ⟨h1, h2, h3⟩ := eqLeaf_ok (n := n) h hua hvb
      exact ⟨by simpa using hn, u, v, part_run h1 h2 (by simpa using hu), part_run h1 h2 (by simpa using hv), h3⟩
  · cases h

theorem eqFs_ok {xs ys : List AV} {us vs : Array Value} {n : Nat} (hx : VRs w Im ρ xs us.toList) (hy : VRs w Im ρ ys vs.toList) : ∀ (fs : List Field) {r : Bool}, eqFs P xs ys fs = some r → (Op.eqFields (n + 1) us vs fs).run P w = .ok r w
  | [], r, h => by cases h; simp [Op.eqFields]
  | [f], r, h => by
    simp only [eqFs] at h
    obtain ⟨h1, a, b, h2, h3, h4⟩ := eqAt_ok (n := n) h hx hy
    simp only [Op.eqFields, if_pos h1, Sem.run_bind, h2, h3, h4, Result.andThen_ok]
    cases r <;> simp
  | f :: g :: fs, r, h => by
    simp only [eqFs] at h
    split at h
    · rename_i p q hp hq
      cases h
      obtain ⟨h1, a, b, h2, h3, h4⟩ := eqAt_ok (n := n) hp hx hy
      have ih := eqFs_ok (n := n) hx hy (g :: fs) (r := q) (by simpa only [eqFs] using hq)
      rw [Op.eqFields]
      simp only [if_pos h1, Sem.run_bind, h2, h3, h4, Result.andThen_ok]
      cases p
      · simp
      · simpa using ih
    · cases h

theorem eqAgg_ok {op xt xs ys d} {us vs : Array Value} (h : (eqAgg P op xt xs ys).get = some d) (hx : VRs w Im ρ xs us.toList) (hy : VRs w Im ρ ys vs.toList) : Quiet w Im ρ P d (binOp op xt (.agg us) (.agg vs)) ∧ P.eqGuardType P.depth xt = false := by
  unfold eqAgg at h
  split at h
  · rename_i fs hu
    cases hc : P.stoodInHeld xt || P.eqGuardType P.depth xt with
    | true => rw [hc] at h; cases h
    | false =>
      rw [hc] at h
      simp only [Bool.or_eq_false_iff] at hc
      simp only [cond_false] at h
      refine ⟨?_, hc.2⟩
      split at h
      · rename_i b hb
        have hf : P.fieldsOf xt = fs := by simp [Program.fieldsOf, hu]
        have he : (Op.equalIn 10000 xt (.agg us) (.agg vs)).run P w = .ok b w := by
          rw [run_equalIn_struct (P := P) w 9999 xt us vs (by rw [hf]; exact hu) hc.1, hf]
          exact eqFs_ok hx hy _ hb
        split at h
        · obtain rfl := get_pure h
          exact ⟨rfl, _, by rw [run_eql_struct, he]; rfl, rfl⟩
        · obtain rfl := get_pure h
          exact ⟨rfl, _, by rw [run_neq_struct, he]; rfl, rfl⟩
        · cases h
      · cases h
  · cases h

theorem bin_ok {op xt x y a b d} (h : (bin P op xt x y).get = some d) (hx : VR w Im ρ x a) (hy : VR w Im ρ y b) : Quiet w Im ρ P d (binOp op xt a b) := by
  unfold bin at h
  split at h
  · obtain ⟨us, rfl, hx⟩ := hx
    obtain ⟨vs, rfl, hy⟩ := hy
    exact (eqAgg_ok h hx hy).1
  · obtain rfl := hx
    obtain rfl := hy
    split at h
    · exact iShift_ok h _ _
    · exact iShift_ok h _ _
    · rename_i h1 h2
      split at h
      · rename_i hk; subst hk
        exact iArith_ok h (fun e => h1 e) (fun e => h2 e) _
      · cases h
  · obtain rfl := hx
    obtain rfl := hy
    exact sBin_ok h _
  · obtain rfl := hx
    obtain rfl := hy
    split at h
    · rename_i hu
      split at h
      · obtain rfl := get_pure h
        exact ⟨rfl, _, run_eql_bool w _ _ _ hu, rfl⟩
      · obtain rfl := get_pure h
        exact ⟨rfl, _, run_neq_bool w _ _ _ hu, rfl⟩
      · cases h
    · cases h
  · cases h

/-- What is looked at ahead of '==' is nothing here. -/
theorem guard_ok {op xt x y a b d} (h : (bin P op xt x y).get = some d) (hx : VR w Im ρ x a) (hy : VR w Im ρ y b) (ox oy : Operand) : (eqGuard op xt ox oy a b).run P w = .ok () w := by
  unfold bin at h
  split at h
  · obtain ⟨us, rfl, hx⟩ := hx
    obtain ⟨vs, rfl, hy⟩ := hy
    exact run_eqGuard_agg w op xt ox oy us vs (eqAgg_ok h hx hy).2
  · obtain rfl := hx
    obtain rfl := hy
    unfold eqGuard; split <;> rfl
  · obtain rfl := hx
    obtain rfl := hy
    unfold eqGuard; split <;> rfl
  · obtain rfl := hx
    obtain rfl := hy
    unfold eqGuard; split <;> rfl
  · cases h

theorem un_ok {op x a d} (h : (un op x).get = some d) (hx : VR w Im ρ x a) : Quiet w Im ρ P d (Op.unary op a) := by
  unfold un at h
  split at h
  · obtain rfl := hx; obtain rfl := get_pure h; exact ⟨rfl, _, rfl, rfl⟩
  · obtain rfl := hx; obtain rfl := get_pure h; exact ⟨rfl, _, rfl, rfl⟩
  · obtain rfl := hx; obtain rfl := get_pure h; exact ⟨rfl, _, rfl, rfl⟩
  · cases h

theorem pick2_ok {c x y a b} (hx : VR w Im ρ x a) (hy : VR w Im ρ y b) : VR w Im ρ (pick2 c x y) (if c = true then a else b) := by
  unfold pick2
  split
  · obtain rfl := hx; obtain rfl := hy; cases c <;> rfl
  · obtain rfl := hx; obtain rfl := hy
    split
    · rename_i e; subst e; cases c <;> rfl
    · cases c
      · exact rfl
      · exact rfl
  · obtain rfl := hx; obtain rfl := hy; cases c <;> rfl
  · cases c
    · exact hy
    · exact hx

/-! ### Lengths, indexes, fields -/
theorem RowOK.count {r x} (h : RowOK w Im ρ r x) : (∃ g cap, ρ r = .blk g x.count cap) ∨ (ρ r = .virt ∧ x.count = 0) := by
  obtain ⟨_, _, h⟩ := h
  cases e : ρ r with
  | unborn => rw [e] at h; exact h.elim
  | gone => rw [e] at h; exact h.elim
  | virt => rw [e] at h; exact .inr ⟨rfl, h.1⟩
  | blk g n cap =>
    rw [e] at h
    exact .inl ⟨g, cap, by rw [h.count]⟩

theorem cellsOf_run {t : TypeId} (h : 0 < P.cellsOf t) : (sizeOf t).run P w = .ok (P.cellsOf t) w := by
  unfold Program.cellsOf at h ⊢
  cases hi : P.info? t with
  | none => simp [hi] at h
  | some i => simp [sizeOf, typeInfo, hi]

theorem cellsOf_run' {t : TypeId} (h : (P.info? t).isSome = true) : (sizeOf t).run P w = .ok (P.cellsOf t) w := by
  unfold Program.cellsOf
  cases hi : P.info? t with
  | none => simp [hi] at h
  | some i => simp [sizeOf, typeInfo, hi]

theorem MapR_len {k v : Ty} : ∀ {es : List MapEntry} {xs : List (El k × El v)}, MapR w Im k v es xs → es.length = xs.length
  | [], xs, h => by simp only [MapR] at h; subst h; rfl
  | e :: es, xs, h => by
    obtain ⟨p, r, rfl, _, _, h3⟩ := h
    simp [MapR_len h3]

theorem map_at {r : Nat} {e : TypeId} {sz : Nat} {k v : Ty} {xs : List (El k × El v)} {a : Value} (hr : RS w Im ρ m) (hl : look m r = some ⟨e, sz, .map k v xs⟩) (hx : VR w Im ρ (.oref .map r) a) :
    ∃ g cap es clock, ρ r = .blk g 0 cap ∧ a = .map (some g) ∧ w.heap[g]? = some (.map es clock) ∧ Born es.toList clock ∧ MapR w Im k v es.toList xs ∧ 0 < sz := by
  obtain ⟨h0, _, hb⟩ := hr.row r _ hl
  simp only [VR] at hx
  cases hρ : ρ r with
  | unborn => rw [hρ] at hb; exact hb.elim
  | gone => rw [hρ] at hb; exact hb.elim
  | virt => rw [hρ] at hb; exact absurd hb.2 (by simp [RC.isObj])
  | blk g n cap =>
    rw [hρ] at hb hx
    obtain ⟨hn, es, clock, hg, hbo, hm⟩ := hb
    subst hn
    exact ⟨g, cap, es, clock, rfl, hx, hg, hbo, hm, h0⟩

theorem opLen_ok {t x a d} (h : (opLen P m t x).get = some d) (hr : RS w Im ρ m) (hx : VR w Im ρ x a) (ty : TypeId) (ts : List TypeId) : Quiet w Im ρ P d (Builtin.len_ (t :: ts).toArray ty #[a]) := by
  unfold opLen at h
  split at h
  · rename_i hu
    obtain rfl := hx; obtain rfl := get_pure h
    exact ⟨rfl, _, by simp [Builtin.len_, run_underlying hu, goInt], rfl⟩
  · rename_i e r sz hu
    split at h
    · rename_i row hl
      obtain ⟨_, rfl⟩ := get_val h
      rcases (hr.row _ _ hl).count with ⟨g, cap, hg⟩ | ⟨hv, h0⟩
      · simp only [VR, hg] at hx
        subst hx
        exact ⟨rfl, _, by simp [Builtin.len_, run_underlying hu, goInt], rfl⟩
      · simp only [VR, hv] at hx
        obtain ⟨A, rfl⟩ := hx
        exact ⟨rfl, .int .i64 0, by simp [Builtin.len_, run_underlying hu, goInt], by simp [h0, VR]⟩
    · cases h
  · rename_i e r sz off len hu
    split at h
    · rename_i row hl
      obtain ⟨_, rfl⟩ := get_val h
      rcases (hr.row _ _ hl).count with ⟨g, cap, hg⟩ | ⟨hv, h0⟩
      · simp only [VR, hg] at hx
        obtain ⟨_, A, c, rfl, _⟩ := hx
        exact ⟨rfl, _, by simp [Builtin.len_, run_underlying hu, goInt], rfl⟩
      · simp only [VR, hv] at hx
        obtain ⟨rfl, _, A, rfl⟩ := hx
        exact ⟨rfl, .int .i64 0, by simp [Builtin.len_, run_underlying hu, goInt], rfl⟩
    · cases h
  · rename_i e r hu
    split at h
    · rename_i row hl
      obtain ⟨_, rfl⟩ := get_val h
      rcases (hr.row _ _ hl).count with ⟨g, cap, hg⟩ | ⟨hv, h0⟩
      · simp only [VR, hg] at hx
        obtain rfl := hx
        exact ⟨rfl, _, by simp [Builtin.len_, run_underlying hu, goInt], rfl⟩
      · simp only [VR, hv] at hx
        obtain rfl := hx
        exact ⟨rfl, .int .i64 0, by simp [Builtin.len_, run_underlying hu, goInt], by simp [h0, VR]⟩
    · cases h
  · rename_i e t' xs hu
    obtain rfl := get_pure h
    obtain ⟨A, cap, ha, _⟩ := hx
    simp only [List.cons.injEq, and_true] at ha
    subst ha
    exact ⟨rfl, _, by simp [Builtin.len_, run_underlying hu, goInt], rfl⟩
  · rename_i mk mv r hu
    split at h
    · rename_i e sz k v xs hl
      obtain ⟨_, rfl⟩ := get_val h
      obtain ⟨g, cap, es, clock, hρ, rfl, hg, hbo, hm, h0⟩ := map_at hr hl hx
      refine ⟨rfl, .int .i64 es.size, by simp [Builtin.len_, run_underlying hu, goInt, MapKept.run_getObj_map hg], ?_⟩
      have : es.size = xs.length := by rw [← Array.length_toList]; exact MapR_len hm
      rw [this]; rfl
    · cases h
  · rename_i e e' hu
    obtain rfl := get_pure h
    obtain ⟨A, rfl⟩ := hx
    exact ⟨rfl, .int .i64 0, by simp [Builtin.len_, run_underlying hu, goInt], rfl⟩
  · cases h
end Go.Proofs.YtfogafinohfpfaaGreatDoorV
