/- Regions: operations in the text's order, and in whatever order. -/
import Derived.Test.YtfogafinohfpfaaGreatDoorVm
import Derived.Test.YtfogafinohfpfaaGreatDoorVl
import Derived.OrdersIn
namespace Go.Proofs.YtfogafinohfpfaaGreatDoorV
open Go.RowKit
set_option linter.unusedVariables false
set_option linter.unusedSimpArgs false

theorem fillP_ev {P : Program} {m : Rows} {ev ev2 : TypeId → Operand → Option AV} {t : TypeId} : ∀ {parts : List (Nat × Operand)} (_ : ∀ p ∈ parts, ∀ ty, ev2 ty p.2 = ev ty p.2) (cs : List AV), fillP P m ev2 t cs parts = fillP P m ev t cs parts
  | [], _, _ => rfl
  | (i, x) :: r, h, cs => by
    have ih := fun cs => fillP_ev (P := P) (m := m) (t := t) (parts := r) (fun p hp => h p (List.mem_cons_of_mem _ hp)) cs
    have hx := h (i, x) (by simp)
    simp only at hx
    simp only [fillP, ih, hx]

theorem refsP_ev {P : Program} {ev ev2 : TypeId → Operand → Option AV} {t : TypeId} : ∀ {parts : List (Nat × Operand)} (_ : ∀ p ∈ parts, ∀ ty, ev2 ty p.2 = ev ty p.2), refsP P ev2 t parts = refsP P ev t parts
  | [], _ => rfl
  | (i, x) :: r, h => by
    have ih := refsP_ev (P := P) (t := t) (parts := r) (fun p hp => h p (List.mem_cons_of_mem _ hp))
    have hx := h (i, x) (by simp)
    simp only at hx
    simp only [refsP, ih, hx]

theorem evL_ev {P : Program} {t t2 : List AV} : ∀ {ts : List TypeId} {xs : List Operand} (_ : ∀ x ∈ xs, ∀ ty, evO P t2 ty x = evO P t ty x), evL P t2 ts xs = evL P t ts xs
  | ts, [], _ => by cases ts <;> rfl
  | [], x :: xs, h => by
    have ih := evL_ev (ts := []) (fun y hy => h y (List.mem_cons_of_mem _ hy))
    simp only [evL, ih, h x (by simp)]
  | ty :: ts, x :: xs, h => by
    have ih := evL_ev (ts := ts) (fun y hy => h y (List.mem_cons_of_mem _ hy))
    simp only [evL, ih, h x (by simp)]

theorem adel_ev {cx : Cx} {o : Oper} {nb : Nat} {t t2 : List AV} {m : Rows} (h : ∀ x ∈ o.op.operands.toList, ∀ ty, evO cx.P t2 ty x = evO cx.P t ty x) : adel cx o nb t2 m = adel cx o nb t m := by
  unfold adel
  cases hop : o.op <;> simp only [hop, Op.operands] at h ⊢
  case move x => rw [h x (by simp)]
  case assign x => rw [h x (by simp)]
  case pick c x y => rw [h c (by simp), h x (by simp), h y (by simp)]
  case box e x => rw [h x (by simp)]
  case build ty parts =>
    have hp : ∀ p ∈ parts.toList, ∀ ty, evO cx.P t2 ty p.2 = evO cx.P t ty p.2 := fun p hp ty => h p.2 (by simp only [List.mem_map]; exact ⟨p, hp, rfl⟩) ty
    unfold opBuild
    simp only [fillP_ev hp, refsP_ev hp]
  case buildSlice ty len parts =>
    have hp : ∀ p ∈ parts.toList, ∀ ty, evO cx.P t2 ty p.2 = evO cx.P t ty p.2 := fun p hp ty => h p.2 (by simp only [List.mem_map]; exact ⟨p, hp, rfl⟩) ty
    unfold opBuildSlice
    simp only [fillP_ev hp, refsP_ev hp]
  case load ty x => rw [h x (by simp)]
  case store ty x y => rw [h x (by simp), h y (by simp)]
  case nilCheck x => rw [h x (by simp)]
  case binOp op xt x y yt => rw [h x (by simp), h y (by simp)]
  case makeInterface xt x => rw [h x (by simp)]
  case typeAssert x xt ty ok => rw [h x (by simp)]
  case panic x => rw [h x (by simp)]
  case unOp op xt x => rw [h x (by simp)]
  case convert s ty x => rw [h x (by simp)]
  case makeFunc f first cap =>
    cases f <;> simp only
    rw [evL_ev (fun x hx => h x (by simp at hx ⊢; exact .inl hx)), evL_ev (fun x hx => h x (by simp at hx ⊢; exact .inr hx))]
  case makeMap ty hint =>
    have key : evOpt cx.P t2 o.type hint = evOpt cx.P t o.type hint := by
      cases hint with
      | none => rfl
      | some v => simp only [evOpt, h v (by simp)]
    rw [key]
  case lookup ty x i ok => rw [h x (by simp), h i (by simp)]
  case mapUpdate ty x i y => rw [h x (by simp), h i (by simp), h y (by simp)]
  case insert ty x i y => rw [h x (by simp), h i (by simp), h y (by simp)]
  case makeSlice ty l c => rw [h l (by simp), h c (by simp)]
  case slice ty x lo hi mx =>
    have key : ∀ (y : Option Operand), (∀ v, y = some v → v ∈ (#[x] ++ lo.toArray ++ hi.toArray ++ mx.toArray).toList) → evOpt cx.P t2 o.type y = evOpt cx.P t o.type y := by
      intro y hy
      cases y with
      | none => rfl
      | some v => simp only [evOpt, h v (hy v rfl)]
    rw [h x (by simp), key lo (by rintro v rfl; simp), key hi (by rintro v rfl; simp), key mx (by rintro v rfl; simp)]
  case fieldAddr ty x f => rw [h x (by simp)]
  case field ty x f => rw [h x (by simp)]
  case indexAddr ty x i => rw [h x (by simp), h i (by simp)]
  case index ty x i => rw [h x (by simp), h i (by simp)]
  case extract x i => rw [h x (by simp)]
  case call c =>
    have ha : evL cx.P t2 c.argTypes.toList c.args.toList = evL cx.P t c.argTypes.toList c.args.toList := evL_ev (fun x hx => h x (by
      simp only [Call.operands, Array.toList_append, List.mem_append]; exact .inr hx))
    rw [ha]
    split
    · split
      · rfl
      · rename_i fo hcal
        rw [h fo (by simp [Call.operands, hcal])]
      · rfl
    · rfl

theorem adel_local {cx : Cx} {o : Oper} {nb : Nat} {t : List AV} {m m2 : Rows} {d : Dl} (h : (adel cx o nb t m).get = some d) (hs : Same m m2 d.rd) : (adel cx o nb t m2).get = some d := by
  unfold adel at h ⊢
  cases hop : o.op <;> simp only [hop] at h ⊢ <;> try exact h
  case makeFunc f first cap => cases f <;> exact h
  case alloc e =>
    split at h
    · cases hsp : selfPtr cx.P e with
      | true => rw [hsp] at h; exact h
      | false => rw [hsp] at h; exact boxIt_local h hs
    · cases h
  case box e x =>
    split at h
    · exact boxIt_local h hs
    · cases h
  case build => exact opBuild_local h hs
  case buildSlice => exact opBuildSlice_local h hs
  case load ty x =>
    split at h
    · exact opLoad_local h hs
    · cases h
  case store ty x y =>
    split at h
    · exact opStore_local h hs
    · cases h
  case nilCheck x =>
    split at h
    · exact opNilCheck_local h hs
    · cases h
  case binOp op xt x y yt =>
    split at h
    · exact h
    · exact bin2_local h hs
    · cases h
  case convert s ty x =>
    split at h
    · exact conv2_local h hs
    · cases h
  case slice ty x lo hi mx =>
    split at h
    · exact opSliceX_local h hs
    · cases h
  case fieldAddr ty x f =>
    split at h
    · exact opFieldAddr_local h hs
    · cases h
  case indexAddr ty x i => exact opIA_local h hs
  case lookup ty x i ok =>
    split at h
    · exact opLookup_local h hs
    · cases h
  case mapUpdate ty x i y =>
    split at h
    · exact opMapUpd_local h hs
    · cases h
  case insert ty x i y =>
    split at h
    · exact opMapUpd_local h hs
    · cases h
  case call c =>
    split at h
    · split at h
      · unfold opBuiltin at h ⊢
        split at h
        · exact opLen_local h hs
        · exact opApp_local h hs
        · exact h
        · exact h
        · exact opSliceData_local h hs
        · exact opUStr_local h hs
        · exact opDelete_local h hs
        · exact opClear_local h hs
        · cases h
      · split at h
        · rename_i f cap hfo
          cases hmb : mB f with
          | false =>
            rw [hmb] at h
            simp only [cond_false] at h ⊢
            cases hfb : fnB (mDec f) with
            | true => rw [hfb] at h; exact opCall_local h hs
            | false => rw [hfb] at h; exact h
          | true =>
          rw [hmb] at h
          simp only [cond_true] at h ⊢
          cases hsame : isSame cx.P f with
          | true => rw [hsame] at h; exact h
          | false =>
            rw [hsame] at h
            simp only [cond_false] at h ⊢
            cases hmc : isMClone cx.P f with
            | true => rw [hmc] at h; exact opMClone_local h hs
            | false =>
            rw [hmc] at h
            simp only [cond_false] at h ⊢
            cases hfb : fnB f with
            | true => rw [hfb] at h; exact opCall_local h hs
            | false => rw [hfb] at h; exact h
        · exact opYield_local h hs
        · cases h
      · cases h
    · cases h

/-! ### The relation of a state to an act and a world -/
structure Cst where
  w0 : World
  Im0 : Nat → Prop
  ρ0 : Nat → Loc
  mm : Nat
  /-- no range is under way here; the calls that are deferred already -/
  nm : Bool
  ds0 : List Deferred

/-- The deferred calls: marks of ranges over functions, and no calls in them; behind them those that were there. -/
def MarksR (c : Cst) (Im : Nat → Prop) (ρ : Nat → Loc) (rs : List Nat) (ds : List Deferred) (w : World) : Prop :=
  ds = rs.map (fun r => { target := .collected r, args := #[] }) ++ c.ds0 ∧ (c.nm = true → rs = []) ∧ rs.Nodup ∧ ∀ r ∈ rs, c.w0.heap.size ≤ r ∧ w.heap[r]? = some (.deferred (some [])) ∧ ¬ ownB ρ r ∧ ¬ Im r
def Marks (c : Cst) (Im : Nat → Prop) (ρ : Nat → Loc) (ds : List Deferred) (w : World) : Prop := ∃ rs : List Nat, MarksR c Im ρ rs ds w

theorem Marks.nil {c Im ρ w} : Marks c Im ρ c.ds0 w := ⟨[], rfl, fun _ => rfl, List.nodup_nil, fun r hr => by cases hr⟩

theorem MarksR.step {c Im ρ rs ds w Im' ρ' w'} (h : MarksR c Im ρ rs ds w) (hk : Kp (ownB ρ) w w') (hI : ∀ b, Im' b → Im b ∨ w.heap.size ≤ b ∨ ownB ρ b) (hO : ∀ b, ownB ρ' b → w.heap.size ≤ b ∨ ownB ρ b) : MarksR c Im' ρ' rs ds w' := by
  obtain ⟨h1, h0, h2, h3⟩ := h
  refine ⟨h1, h0, h2, fun r hr => ?_⟩
  obtain ⟨a1, a2, a3, a4⟩ := h3 r hr
  have hlt : r < w.heap.size := (Array.getElem?_eq_some_iff.1 a2).1
  refine ⟨a1, (hk.blk r hlt a3).trans a2, fun ho => ?_, fun hi => ?_⟩
  · rcases hO r ho with e | e
    · omega
    · exact a3 e
  · rcases hI r hi with e | e | e
    · exact a4 e
    · omega
    · exact a3 e

theorem Marks.step {c Im ρ ds w Im' ρ' w'} (h : Marks c Im ρ ds w) (hk : Kp (ownB ρ) w w') (hI : ∀ b, Im' b → Im b ∨ w.heap.size ≤ b ∨ ownB ρ b) (hO : ∀ b, ownB ρ' b → w.heap.size ≤ b ∨ ownB ρ b) : Marks c Im' ρ' ds w' :=
  let ⟨rs, h⟩ := h
  ⟨rs, h.step hk hI hO⟩

structure SR (c : Cst) (Im : Nat → Prop) (ρ : Nat → Loc) (t : List AV) (m : Rows) (a : Act) (w : World) : Prop where
  rs : RS w Im ρ m
  sz : a.tmps.size = t.length
  tm : VRs w Im ρ t a.tmps.toList
  df : Marks c Im ρ a.defers w
  kp : Kp (ownB c.ρ0) c.w0 w
  im0 : ∀ b, c.Im0 b → Im b
  imn : ∀ b, Im b → c.Im0 b ∨ c.w0.heap.size ≤ b ∨ ownB c.ρ0 b
  own : ∀ b, ownB ρ b → c.w0.heap.size ≤ b ∨ ownB c.ρ0 b
  root : ∀ q, q < c.mm → ρ q = c.ρ0 q ∨ ρ q = .gone

theorem putT_len (t : List AV) (d : Option Tmp) (v : AV) : (putT t d v).length = t.length := by
  cases d <;> simp [putT]

theorem VRs_put {w Im ρ} {t : List AV} {a : Act} (h : VRs w Im ρ t a.tmps.toList) (d : Option Tmp) {x v} (hx : VR w Im ρ x v) : VRs w Im ρ (putT t d x) (a.put d v).tmps.toList := by
  cases d with
  | none => exact h
  | some d =>
    simp only [putT, Act.put, Array.toList_setIfInBounds]
    exact VRs_set h d hx

theorem put_size (a : Act) (d : Option Tmp) (v : Value) : (a.put d v).tmps.size = a.tmps.size := by cases d <;> simp [Act.put]
theorem put_defers (a : Act) (d : Option Tmp) (v : Value) : (a.put d v).defers = a.defers := by cases d <;> rfl

theorem SR.step {c Im ρ t m a w nb Im' ρ' m' w'} (h : SR c Im ρ t m a w) (hE : Eff nb Im ρ w Im' ρ' m' w') (hmm : c.mm ≤ nb) (dst : Option Tmp) {x v} (hv : VR w' Im' ρ' x v) :
    SR c Im' ρ' (putT t dst x) m' (a.put dst v) w' := by
  refine ⟨hE.rs, by rw [put_size, putT_len]; exact h.sz, ?_, by rw [put_defers]; exact h.df.step hE.kp hE.imN hE.own, ?_, fun b hb => hE.imI b (h.im0 b hb), ?_, ?_, ?_⟩
  · exact VRs_put (VRs_mono (fun b hb => h.rs.im_same hE.kp b hb) hE.imI hE.ext _ _ h.tm) dst hv
  · exact h.kp.trans hE.kp (fun _ h => h) (fun b hb => (h.own b hb).symm)
  · intro b hb
    have := h.kp.size
    rcases hE.imN b hb with e | e | e
    · exact h.imn b e
    · exact .inr (.inl (by omega))
    · exact .inr (h.own b e)
  · intro b hb
    have := h.kp.size
    rcases hE.own b hb with e | e
    · exact .inl (by omega)
    · exact h.own b e
  · intro q hq
    rcases hE.ext q with e | e | e
    · rw [e]; exact h.root q hq
    · exact .inr e
    · have := h.root q hq
      rw [e] at this
      rw [hE.born q e (by omega)]
      exact this

theorem SR.skip {c Im ρ t m a w} (h : SR c Im ρ t m a w) (dst : Option Tmp) : SR c Im ρ (putT t dst (.tup [])) m (a.put dst undef) w := by
  refine ⟨h.rs, by rw [put_size, putT_len]; exact h.sz, VRs_put h.tm dst ⟨#[], rfl, by simp [VRs]⟩, by rw [put_defers]; exact h.df, h.kp, h.im0, h.imn, h.own, h.root⟩

theorem guard_spec {c Im ρ t m a w} (h : SR c Im ρ t m a w) {ops : Array Oper} {o : Oper} {g : Bool} (hg : guardB ops t o = some g) : Region.wanted o (yielded ops a.tmps) = g := by
  unfold guardB at hg
  unfold Region.wanted
  split at hg
  · rename_i he
    simp only [Option.some.injEq] at hg
    rw [he]; exact hg
  · rename_i j want he
    rw [he]
    simp only
    split at hg
    · rename_i d hd
      have hv := VRs_get h.tm d
      split at hg
      · rename_i b hb
        simp only [Option.some.injEq] at hg
        rw [hb] at hv
        simp only [VR] at hv
        have hlt : d < a.tmps.size := by
          rcases Nat.lt_or_ge d a.tmps.size with hlt | hge
          · exact hlt
          · rw [List.getD_eq_getElem?_getD, List.getElem?_eq_none (by rw [← h.sz]; exact hge)] at hb
            cases hb
        have hy : yielded ops a.tmps j = some b := by
          unfold yielded
          rw [hd]
          have : a.tmps[d]? = some (.bool b) := by
            rw [Array.getElem?_eq_getElem hlt]
            simp only [List.getD, Array.getElem?_toList, Array.getElem?_eq_getElem hlt, Option.getD_some] at hv
            rw [hv]
          simp only [Option.bind_some, this]
        rw [hy, ← hg]
        cases b <;> cases want <;> rfl
      · rename_i l hb
        simp only [Option.some.injEq] at hg
        rw [hb] at hv
        simp only [VR] at hv
        obtain ⟨cs, hv, _⟩ := hv
        have hy : yielded ops a.tmps j = none := by
          unfold yielded
          rw [hd]
          simp only [Option.bind_some]
          rcases Nat.lt_or_ge d a.tmps.size with hlt | hge
          · rw [Array.getElem?_eq_getElem hlt]
            simp only [List.getD, Array.getElem?_toList, Array.getElem?_eq_getElem hlt, Option.getD_some] at hv
            rw [hv]
          · rw [Array.getElem?_eq_none hge]
        rw [hy, ← hg]; rfl
      · cases hg
    · cases hg

theorem run_get {R : Type} {o : OR} {k kp : Dl → Option R} {r : R} (h : o.run k kp = some r) : (∃ d, o.get = some d ∧ k d = some r) ∨ ∃ d, o.getp = some d ∧ kp d = some r := by
  cases o with
  | fail => cases h
  | val c d =>
    cases c with
    | false => cases h
    | true => exact .inl ⟨d, rfl, h⟩
  | call o f g hh =>
    cases o with
    | none => cases h
    | some y =>
      simp only [OR.run, Option.bind_some, hh] at h
      cases hf : f y with
      | none => rw [hf] at h; cases h
      | some x =>
        obtain ⟨p, d⟩ := x
        rw [hf] at h
        cases p with
        | true => exact .inr ⟨d, by simp only [OR.getp, Option.bind_some, hf], h⟩
        | false => exact .inl ⟨d, by simp only [OR.get, Option.bind_some, hf], h⟩
  | pan d => exact .inr ⟨d, rfl, h⟩

theorem split_get {R : Type} {c : Bool} {v : AV} {k : AV → Option R} {r : R} (h : split c v k = some r) : k v = some r := by
  unfold split at h
  cases c with
  | false => exact h
  | true =>
    simp only at h
    split at h
    · rename_i b
      cases b <;> exact h
    · exact h

/-! ### The text's order -/
theorem anyR_some {R : Type} {x y : Option R} {r : R} (h : anyR x y = some r) : x = some r ∧ y = some r := by
  unfold anyR at h
  split at h
  · rename_i e; exact ⟨h, e ▸ h⟩
  · cases h

theorem equalIn_slice {P : Program} {w : World} {xt et : TypeId} (hu : P.underlying xt = some (.slice et)) (d : Nat) (A : Option Addr) (n c : Nat) : (Op.equalIn (d + 1) xt (.slice A n c) (.slice none 0 0)).run P w = .ok A.isNone w := by
  cases A <;> simp [Op.equalIn, Sem.run_bind, run_underlying hu, Result.andThen_ok]

theorem nilCmp_ok {P : Program} {rd : Option Nat} {t : List AV} {m : Rows} {o : Oper} {e b : Bool} {w : World} {Im ρ} {a : Act} (h : nilCmp P t m o = some (e, b)) (hr : RS w Im ρ m) (ht : VRs w Im ρ t a.tmps.toList) {Q : Exit → Act → World → Prop} {next : Act → World → Prop}
    (hn : ∀ b', (e = false → b' = !b) → next (a.put o.dst (.bool b')) w) : o.wpIn (FW rd) 0 P a w next Q := by
  unfold nilCmp at h
  split at h
  · rename_i op xt x yt hop
    split at h
    · rename_i et v hu hv
      have hx := evO_ok (w := w) (Im := Im) (ρ := ρ) (a := a) ht hv
      have key : ∀ e', isEmptyV m v = some e' → ∃ A n c, a.eval x = .slice A n c ∧ (e' = false → A.isNone = false) := by
        intro e' he
        unfold isEmptyV at he
        split at he
        · rename_i t' xs
          cases he
          obtain ⟨A, cap, hA, hc, hne⟩ := hx
          simp only [List.cons.injEq, and_true] at hA
          refine ⟨A, xs.length, cap, hA, fun hf => ?_⟩
          obtain ⟨ad, rfl, _⟩ := hne (by intro h; subst h; simp at hf)
          rfl
        · cases he
          obtain ⟨A, hA⟩ := hx
          exact ⟨A, 0, 0, hA, fun h => by cases h⟩
        · rename_i r sz
          split at he
          · rename_i e1 s1 t1 xs hl
            cases he
            obtain ⟨_, _, hrow⟩ := hr.row _ _ hl
            simp only [VR] at hx
            cases hρ : ρ r with
            | unborn => rw [hρ] at hrow; exact hrow.elim
            | gone => rw [hρ] at hrow; exact hrow.elim
            | virt =>
              rw [hρ] at hrow hx
              obtain ⟨A, hA⟩ := hx
              refine ⟨A, 0, 0, hA, fun hf => ?_⟩
              have h0 : xs.length = 0 := hrow.1
              have : xs = [] := List.eq_nil_of_length_eq_zero h0
              subst this
              simp at hf
            | blk g n cap =>
              rw [hρ] at hx
              exact ⟨_, _, _, hx, fun _ => rfl⟩
          · cases he
        · rename_i r sz off len
          split at he
          · rename_i row hl
            cases he
            obtain ⟨_, _, hrow⟩ := hr.row _ _ hl
            simp only [VR] at hx
            cases hρ : ρ r with
            | unborn => rw [hρ] at hrow; exact hrow.elim
            | gone => rw [hρ] at hrow; exact hrow.elim
            | virt =>
              rw [hρ] at hx
              obtain ⟨rfl, _, A, hA⟩ := hx
              exact ⟨A, 0, 0, hA, fun hf => by simp at hf⟩
            | blk g n cap =>
              rw [hρ] at hx
              obtain ⟨_, A, c, hA, _, hne⟩ := hx
              refine ⟨A, len, c, hA, fun hf => ?_⟩
              have : 0 < len := by
                rcases Nat.eq_zero_or_pos len with e0 | e0
                · subst e0; simp at hf
                · exact e0
              rw [hne this]
              rfl
          · cases he
        · cases he
      have run : ∀ (A : Option Addr) (n c : Nat), (Op.equal xt (.slice A n c) (.slice none 0 0)).run P w = .ok A.isNone w := by
        intro A n c
        exact equalIn_slice hu 9999 A n c
      split at h
      · simp only [Option.map_eq_some_iff, Prod.mk.injEq] at h
        obtain ⟨e', he, rfl, rfl⟩ := h
        obtain ⟨A, n, c, hA, hf⟩ := key _ he
        refine wp_value (by intro c hc; rw [hop] at hc; cases hc) (s := (do eqGuard .eql xt x (.const (.slice none 0 0)) (a.eval x) (.slice none 0 0); binOp .eql xt (a.eval x) (.slice none 0 0))) (v := .bool A.isNone) (w' := w) (by simp only [execOp, hop] <;> rfl) ?_ (hn _ (fun h => by simp [hf h]))
        rw [hA]
        simp only [Sem.run_bind]
        simp [eqGuard, binOp, Sem.run_bind, run, Result.andThen_ok]
      · simp only [Option.map_eq_some_iff, Prod.mk.injEq] at h
        obtain ⟨e', he, rfl, rfl⟩ := h
        obtain ⟨A, n, c, hA, hf⟩ := key _ he
        refine wp_value (by intro c hc; rw [hop] at hc; cases hc) (s := (do eqGuard .neq xt x (.const (.slice none 0 0)) (a.eval x) (.slice none 0 0); binOp .neq xt (a.eval x) (.slice none 0 0))) (v := .bool !A.isNone) (w' := w) (by simp only [execOp, hop] <;> rfl) ?_ (hn _ (fun h => by simp [hf h]))
        rw [hA]
        simp only [Sem.run_bind]
        simp [eqGuard, binOp, Sem.run_bind, run, Result.andThen_ok]
      · cases h
    · cases h
  · cases h

theorem runOps_sound {cx : Cx} (hD : DOK cx) {rd : Option Nat} {c : Cst} {ops : Array Oper} {nx : Nat} (hmm : c.mm ≤ nx) {R : Type} {k : List AV → Rows → Option R} {kp : AV → List AV → Rows → Option R} {r : R} {Q : Exit → Act → World → Prop}
    (hk : ∀ t' m' Im' ρ' a' w', k t' m' = some r → SR c Im' ρ' t' m' a' w' → (∀ q, nx + 64 * ops.size ≤ q → ρ' q = .unborn) → Q .normal a' w')
    (hp : ∀ v u t' m' Im' ρ' a' w', kp v t' m' = some r → SR c Im' ρ' (v :: t') m' { a' with tmps := #[u] ++ a'.tmps } w' → (∀ q, nx + 64 * ops.size ≤ q → ρ' q = .unborn) → Q (.panic [{ v := u, recovered := false }]) a' w') :
    ∀ (l : List Oper) (i : Nat) (t : List AV) (m : Rows) (Im : Nat → Prop) (ρ : Nat → Loc) (a : Act) (w : World), ops.toList.drop i = l → i + l.length = ops.size → runOps cx ops nx kp i l t m k = some r → SR c Im ρ t m a w →
      (∀ q, nx + 64 * i ≤ q → ρ q = .unborn) → wpOpsIn (FW rd) 0 cx.P ops Q (List.range' i l.length) a w
  | [], i, t, m, Im, ρ, a, w, hl, hsz, h, hs, hf => by
    simp only [List.length_nil, List.range'_zero, wpOpsIn]
    simp only [List.length_nil, Nat.add_zero] at hsz
    subst hsz
    exact hk t m Im ρ a w h hs hf
  | o :: l, i, t, m, Im, ρ, a, w, hl, hsz, h, hs, hf => by
    simp only [List.length_cons] at hsz
    have ho : ops[i]? = some o := by
      rw [← Array.getElem?_toList]
      have := congrArg (·[0]?) hl
      simpa using this
    have hl' : ops.toList.drop (i + 1) = l := by
      have := congrArg List.tail hl
      simpa [List.tail_drop] using this
    simp only [List.length_cons, List.range'_succ, wpOpsIn, ho]
    simp only [runOps] at h
    split at h
    · cases h
    · rename_i g hg
      rw [guard_spec hs hg]
      cases g with
      | true =>
        simp only [cond_true] at h
        rw [if_pos rfl]
        split at h
        · rename_i e b hc
          refine nilCmp_ok hc hs.rs hs.tm (fun b' hb' => ?_)
          have hgo : runOps cx ops nx kp (i + 1) l (putT t o.dst (.bool b')) m k = some r := by
            cases e with
            | false =>
              simp only [cond_false] at h
              rw [hb' rfl]; exact h
            | true =>
              simp only [cond_true] at h
              obtain ⟨h1, h2⟩ := anyR_some h
              cases b <;> cases b' <;> assumption
          exact runOps_sound hD hmm hk hp l (i + 1) _ _ Im ρ _ w hl' (by omega) hgo (hs.step (Eff.none (nb := nx + 64 * i) hs.rs) (by omega) o.dst (x := .bool b') rfl) (fun q hq => hf q (by omega))
        rcases run_get h with ⟨d, hd, h⟩ | ⟨d, hd, h⟩
        case inr =>
          cases hmp : mayP o.op with
          | false => rw [hmp] at h; cases h
          | true =>
            rw [hmp] at h
            refine op_panics hD hd hmp hs.rs hs.tm (fun q h1 h2 => hf q h1) (fun u w' Im' ρ' hE hv => ?_)
            have hs' := hs.step hE (by omega) none (x := d.v) (v := u) hv
            exact hp d.v u t _ Im' ρ' a w' h ⟨hs'.rs, by have := hs.sz; simp; omega, by rw [Array.toList_append]; exact VRs_cons.2 ⟨u, _, rfl, hv, hs'.tm⟩, hs'.df, hs'.kp, hs'.im0, hs'.imn, hs'.own, hs'.root⟩ (fun q hq => hE.born q (hf q (by omega)) (by omega))
        have h := split_get h
        refine op_sound hD hd hs.rs hs.tm (fun q h1 h2 => hf q h1) (fun v w' Im' ρ' hE hv => ?_)
        exact runOps_sound hD hmm hk hp l (i + 1) _ _ Im' ρ' _ w' hl' (by omega) h (hs.step hE (by omega) o.dst hv) (fun q hq => hE.born q (hf q (by omega)) (by omega))
      | false =>
        simp only [cond_false] at h
        rw [if_neg (by simp)]
        refine ⟨fun _ _ => trivial, ?_⟩
        exact runOps_sound hD hmm hk hp l (i + 1) _ _ Im ρ _ w hl' (by omega) h (hs.skip o.dst) (fun q hq => hf q (by omega))
end Go.Proofs.YtfogafinohfpfaaGreatDoorV
