/- Rows in a world, and what a step of the machine makes of them. -/
import Derived.Test.YtfogafinohfpfaaGreatDoorVc
namespace Go.Proofs.YtfogafinohfpfaaGreatDoorV
open Go.RowKit
set_option linter.unusedVariables false

/-- What is known of the variables: their blocks stay as they are. -/
structure Gd (Im : Nat → Prop) (w : World) : Prop where
  im : ∀ b ∈ GB, Im b
  gw : GW w

/-- No cell is marked. -/
def NF (fr : Nat × Nat) (n : Nat) : Prop := ∀ j, j < n → ¬ (fr.1 ≤ j ∧ j < fr.2)

def Row.okc (x : Row) : Prop := match x.c with
  | .list t _ => csz t = x.sz
  | .cells l => l.length = x.count * x.sz
  | _ => True

/-- How a range stands. -/
def LoopSt (st : Nat) (r : Loop) : Prop := match st with
  | 0 => r.state = .ready ∧ r.pending = none
  | 1 => r.state = .busy ∧ r.pending = none
  | 2 => r.state = .done ∧ r.pending = some .ret
  | n + 3 => r.state = .done ∧ r.pending = some (.exit n)

/-- A map's entries. -/
def MapR (w : World) (Im : Nat → Prop) (k v : Ty) : List MapEntry → List (El k × El v) → Prop
  | [], xs => xs = []
  | e :: l, xs => ∃ p r, xs = p :: r ∧ VR w Im (fun _ => .gone) (av1 k p.1) e.key ∧ VR w Im (fun _ => .gone) (av1 v p.2) e.val ∧ MapR w Im k v l r

/-- Each was born ahead of the clock, and behind those ahead of it. -/
def Born (es : List MapEntry) (clock : Nat) : Prop := (∀ e ∈ es, e.born < clock) ∧ es.Pairwise fun a b => a.born < b.born

/-- What lies in a row's block. -/
def BOK (w : World) (Im : Nat → Prop) (ρ : Nat → Loc) (x : Row) (g n cap : Nat) : Prop := match x.c with
  | .loop id st l => n = 0 ∧ ∃ r : Loop, w.heap[g]? = some (.loop r) ∧ LA id = some (r.params, r.assign, r.body) ∧ LoopSt st r ∧ VRs w Im ρ l r.tmps.toList
  | .map k v xs => n = 0 ∧ ∃ es clock, w.heap[g]? = some (.map es clock) ∧ Born es.toList clock ∧ MapR w Im k v es.toList xs
  | .siter s pos => n = 0 ∧ w.heap[g]? = some (.stringIter s pos)
  | _ => ∃ cur fr, w.heap[g]? = some (.cells cur x.e fr) ∧ NF fr cur.size ∧ x.count = n ∧ n ≤ cap ∧ cap ≤ maxLen ∧
      cur.size = cap * x.sz ∧ VRs w Im ρ x.c.flat (cur.toList.take (n * x.sz))

def RowOK (w : World) (Im : Nat → Prop) (ρ : Nat → Loc) (r : Nat) (x : Row) : Prop := 0 < x.sz ∧ x.okc ∧ match ρ r with
  | .virt => x.count = 0 ∧ x.c.isObj = false
  | .blk g n cap => BOK w Im ρ x g n cap
  | _ => False

theorem BOK.cells {w Im ρ x g n cap} (h : BOK w Im ρ x g n cap) (hn : 0 < n ∨ x.c.isObj = false) : ∃ cur fr, w.heap[g]? = some (.cells cur x.e fr) ∧ NF fr cur.size ∧ x.count = n ∧ n ≤ cap ∧ cap ≤ maxLen ∧
      cur.size = cap * x.sz ∧ VRs w Im ρ x.c.flat (cur.toList.take (n * x.sz)) := by
  obtain ⟨e, sz, c⟩ := x
  cases c with
  | cells l => exact h
  | list t xs => exact h
  | _ =>
    rcases hn with hn | hn
    · have := h.1; omega
    · cases hn

theorem BOK.of {w Im ρ} {x : Row} {g n cap} (hx : x.c.isObj = false) (h : ∃ cur fr, w.heap[g]? = some (.cells cur x.e fr) ∧ NF fr cur.size ∧ x.count = n ∧ n ≤ cap ∧ cap ≤ maxLen ∧
      cur.size = cap * x.sz ∧ VRs w Im ρ x.c.flat (cur.toList.take (n * x.sz))) : BOK w Im ρ x g n cap := by
  obtain ⟨e, sz, c⟩ := x
  cases c with
  | cells l => exact h
  | list t xs => exact h
  | _ => cases hx

theorem BOK.lt {w Im ρ x g n cap} (h : BOK w Im ρ x g n cap) : g < w.heap.size := by
  have key : ∃ o, w.heap[g]? = some o := by
    obtain ⟨e, sz, c⟩ := x
    cases c with
    | cells l => obtain ⟨_, _, hg, _⟩ := h; exact ⟨_, hg⟩
    | list t xs => obtain ⟨_, _, hg, _⟩ := h; exact ⟨_, hg⟩
    | loop id st l => obtain ⟨_, _, hg, _⟩ := h; exact ⟨_, hg⟩
    | map k v xs => obtain ⟨_, _, _, hg, _⟩ := h; exact ⟨_, hg⟩
    | siter s pos => exact ⟨_, h.2⟩
  obtain ⟨o, hg⟩ := key
  exact (Array.getElem?_eq_some_iff.1 hg).1

theorem BOK.count {w Im ρ x g n cap} (h : BOK w Im ρ x g n cap) : x.count = n := by
  obtain ⟨e, sz, c⟩ := x
  cases c with
  | cells l => obtain ⟨_, _, _, _, hc, _⟩ := h; exact hc
  | list t xs => obtain ⟨_, _, _, _, hc, _⟩ := h; exact hc
  | loop id st l => exact h.1.symm
  | map k v xs => exact h.1.symm
  | siter s pos => exact h.1.symm

theorem BOK.le {w Im ρ x g n cap} (h : BOK w Im ρ x g n cap) : n ≤ cap := by
  rcases Nat.eq_zero_or_pos n with e | e
  · omega
  · obtain ⟨_, _, _, _, _, hn, _⟩ := h.cells (.inl e)
    exact hn

theorem MapR_mono {w w' : World} {Im Im' : Nat → Prop} (hw : ∀ b, Im b → w'.heap[b]? = w.heap[b]?) (hi : ∀ b, Im b → Im' b) {k v : Ty} : ∀ {es : List MapEntry} {xs : List (El k × El v)}, MapR w Im k v es xs → MapR w' Im' k v es xs
  | [], xs, h => h
  | e :: l, xs, h => by
    obtain ⟨p, r, rfl, h1, h2, h3⟩ := h
    exact ⟨p, r, rfl, VR_mono hw hi (Ext.refl _) _ _ h1, VR_mono hw hi (Ext.refl _) _ _ h2, MapR_mono hw hi h3⟩

theorem av1_noImm : ∀ (t : Ty) (x : El t), t.flat = true → (av1 t x).noImm = true
  | .int _, _, _ => rfl
  | .bool, _, _ => rfl
  | .str, _, _ => rfl
  | .list t, _, h => by simp [Ty.flat] at h
  | .node, _, h => by simp [Ty.flat] at h
  | .prod a b, p, h => by
    have key : ∀ (t : Ty) (x : El t), t.flat = true → AV.noImmL (enc t x) = true := by
      intro t
      induction t with
      | int k => intro _ _; rfl
      | bool => intro _ _; rfl
      | str => intro _ _; rfl
      | list t => intro x h; simp [Ty.flat] at h
      | node => intro x h; simp [Ty.flat] at h
      | prod a b iha ihb =>
        intro x h
        simp only [Ty.flat, Bool.and_eq_true] at h
        have : ∀ l l' : List AV, AV.noImmL l = true → AV.noImmL l' = true → AV.noImmL (l ++ l') = true := by
          intro l l' h h'
          induction l with
          | nil => exact h'
          | cons y l ih =>
            simp only [AV.noImmL, Bool.and_eq_true, List.cons_append] at h ⊢
            exact ⟨h.1, ih h.2⟩
        exact this _ _ (iha _ h.1) (ihb _ h.2)
    exact key _ _ h

theorem MapR_flat {w : World} {Im Im' : Nat → Prop} {k v : Ty} (hk : k.flat = true) (hv : v.flat = true) : ∀ {es : List MapEntry} {xs : List (El k × El v)}, MapR w Im k v es xs → MapR w Im' k v es xs
  | [], xs, h => h
  | e :: l, xs, h => by
    obtain ⟨p, r, rfl, h1, h2, h3⟩ := h
    exact ⟨p, r, rfl, VR_noImm _ _ (av1_noImm _ _ hk) h1, VR_noImm _ _ (av1_noImm _ _ hv) h2, MapR_flat hk hv h3⟩

theorem BOK.mono {w w' : World} {Im Im' : Nat → Prop} {ρ ρ' : Nat → Loc} {x g n cap} (h : BOK w Im ρ x g n cap) (hw : ∀ b, Im b → w'.heap[b]? = w.heap[b]?) (hi : ∀ b, Im b → Im' b) (hρ : Ext ρ ρ') (hg : w'.heap[g]? = w.heap[g]?) : BOK w' Im' ρ' x g n cap := by
  obtain ⟨e, sz, c⟩ := x
  cases c with
  | cells l =>
    obtain ⟨cur, fr, hh, a1, a2, a3, a4, a5, a6⟩ := h
    exact ⟨cur, fr, hg.trans hh, a1, a2, a3, a4, a5, VRs_mono hw hi hρ _ _ a6⟩
  | list t xs =>
    obtain ⟨cur, fr, hh, a1, a2, a3, a4, a5, a6⟩ := h
    exact ⟨cur, fr, hg.trans hh, a1, a2, a3, a4, a5, VRs_mono hw hi hρ _ _ a6⟩
  | loop id st l =>
    obtain ⟨h0, r, hh, a1, a2, a3⟩ := h
    exact ⟨h0, r, hg.trans hh, a1, a2, VRs_mono hw hi hρ _ _ a3⟩
  | map k v xs =>
    obtain ⟨h0, es, cl, hh, a1, a2⟩ := h
    exact ⟨h0, es, cl, hg.trans hh, a1, MapR_mono hw hi a2⟩
  | siter s pos => exact ⟨h.1, hg.trans h.2⟩

structure RS (w : World) (Im : Nat → Prop) (ρ : Nat → Loc) (m : Rows) : Prop where
  row : ∀ r x, look m r = some x → RowOK w Im ρ r x
  gone : ∀ r, look m r = none → ρ r = .gone ∨ ρ r = .unborn
  inj : ∀ r r' g n q n' q', ρ r = .blk g n q → ρ r' = .blk g n' q' → r = r'
  noim : ∀ r g n q, ρ r = .blk g n q → ¬ Im g
  imlt : ∀ b, Im b → b < w.heap.size
  gd : Gd Im w

def ownB (ρ : Nat → Loc) (b : Nat) : Prop := ∃ r n q, ρ r = .blk b n q

structure Kp (A : Nat → Prop) (w w' : World) : Prop where
  os : w'.os = w.os
  tape : w'.tape = w.tape
  output : w'.output = w.output
  size : w.heap.size ≤ w'.heap.size
  blk : ∀ b, b < w.heap.size → ¬ A b → w'.heap[b]? = w.heap[b]?

theorem Kp.refl (A : Nat → Prop) (w : World) : Kp A w w := ⟨rfl, rfl, rfl, Nat.le_refl _, fun _ _ _ => rfl⟩
theorem Kp.trans {A B C : Nat → Prop} {w w' w'' : World} (h : Kp A w w') (h' : Kp B w' w'') (ha : ∀ b, A b → C b) (hb : ∀ b, B b → C b ∨ w.heap.size ≤ b) : Kp C w w'' :=
  ⟨h'.os.trans h.os, h'.tape.trans h.tape, h'.output.trans h.output, Nat.le_trans h.size h'.size, fun b hl hn => by
    rw [h'.blk b (Nat.lt_of_lt_of_le hl h.size) (fun e => (hb b e).elim hn (by omega)), h.blk b hl (fun e => hn (ha b e))]⟩

/-- What one operation, whose names are nb to nb + 63, makes of rows and world. -/
structure Eff (nb : Nat) (Im : Nat → Prop) (ρ : Nat → Loc) (w : World) (Im' : Nat → Prop) (ρ' : Nat → Loc) (m' : Rows) (w' : World) : Prop where
  rs : RS w' Im' ρ' m'
  kp : Kp (ownB ρ) w w'
  ext : Ext ρ ρ'
  imI : ∀ b, Im b → Im' b
  imN : ∀ b, Im' b → Im b ∨ w.heap.size ≤ b ∨ ownB ρ b
  own : ∀ b, ownB ρ' b → w.heap.size ≤ b ∨ ownB ρ b
  born : ∀ q, ρ q = .unborn → ¬ (nb ≤ q ∧ q < nb + 64) → ρ' q = .unborn

theorem Eff.none {nb Im ρ m w} (h : RS w Im ρ m) : Eff nb Im ρ w Im ρ m w :=
  ⟨h, Kp.refl _ _, Ext.refl _, fun _ h => h, fun _ h => .inl h, fun _ h => .inr h, fun _ h _ => h⟩

theorem RS.lt {w Im ρ m} (h : RS w Im ρ m) {r g n q} (hr : ρ r = .blk g n q) : g < w.heap.size := by
  cases hl : look m r with
  | none => rcases h.gone r hl with e | e <;> rw [hr] at e <;> cases e
  | some x =>
    obtain ⟨_, _, hx⟩ := h.row r x hl
    rw [hr] at hx
    exact hx.lt

theorem RS.im_same {w Im ρ m w'} (h : RS w Im ρ m) (hk : Kp (ownB ρ) w w') (b : Nat) (hb : Im b) : w'.heap[b]? = w.heap[b]? :=
  hk.blk b (h.imlt b hb) (fun ⟨r, n, q, e⟩ => h.noim r b n q e hb)

theorem RS.gd_keep {w Im ρ m w'} (h : RS w Im ρ m) (hk : Kp (ownB ρ) w w') : Gd Im w' :=
  ⟨h.gd.im, GW_of (fun b hb => h.im_same hk b (h.gd.im b hb)) h.gd.gw⟩

theorem Gd.more {w : World} {Im Im' : Nat → Prop} (h : Gd Im w) (hI : ∀ b, Im b → Im' b) : Gd Im' w := ⟨fun b hb => hI b (h.im b hb), h.gw⟩

/-! ### Rows' cells -/
theorem flatMap_len (t : Ty) : ∀ xs : List (El t), (xs.flatMap (enc t)).length = xs.length * csz t
  | [] => by simp
  | x :: l => by
    have := flatMap_len t l
    simp only [List.flatMap_cons, List.length_append, enc_len, List.length_cons, this, Nat.succ_mul]
    omega

theorem Row.flat_len {x : Row} (h : x.okc) : x.c.flat.length = x.count * x.sz := by
  obtain ⟨e, sz, c⟩ := x
  cases c with
  | cells l => exact h
  | list t xs =>
    simp only [Row.okc] at h
    simp only [RC.flat, Row.count, flatMap_len, h]
  | _ => simp [RC.flat, Row.count]

theorem flatMap_at (t : Ty) : ∀ (xs : List (El t)) (i : Nat), i < xs.length →
    ((xs.flatMap (enc t)).drop (i * csz t)).take (csz t) = enc t (xs.getD i (dfl t))
  | [], i, h => by simp at h
  | x :: l, 0, _ => by
    simp only [List.flatMap_cons, Nat.zero_mul, List.drop_zero]
    rw [List.take_append_of_le_length (by rw [enc_len]; exact Nat.le_refl _), List.take_of_length_le (by rw [enc_len]; exact Nat.le_refl _)]
    rfl
  | x :: l, i + 1, h => by
    have hl : i < l.length := by simpa using h
    have e : (i + 1) * csz t = (enc t x).length + i * csz t := by rw [enc_len, Nat.succ_mul]; omega
    rw [List.flatMap_cons, e, ← List.drop_drop, List.drop_left, flatMap_at t l i hl]
    rfl

/-- The cells of element i lie where they should. -/
theorem Row.at_flat {x : Row} (h : x.okc) {i : Nat} (hi : i < x.count) {j k : Nat} (hj : j + k ≤ x.sz) :
    ((x.at i).drop j).take k = (x.c.flat.drop (i * x.sz + j)).take k := by
  obtain ⟨e, sz, c⟩ := x
  cases c with
  | cells l =>
    cases i with
    | zero => simp [Row.at, RC.flat]
    | succ i =>
      simp only [Row.at, RC.flat]
      rw [List.drop_take, List.take_take, List.drop_drop, Nat.min_eq_left (by simp at hj; omega)]
  | list t xs =>
    simp only [Row.okc] at h
    simp only at hj
    subst h
    simp only [Row.at, RC.flat]
    rw [← flatMap_at t xs i hi, List.drop_take, List.take_take, List.drop_drop, Nat.min_eq_left (by omega)]
  | _ => simp [Row.count] at hi

/-- What follows a cell of element i. -/
theorem Row.at_drop {x : Row} (h : x.okc) {i : Nat} (hi : i < x.count) {j : Nat} :
    ∃ k, (x.at i).drop j = (x.c.flat.drop (i * x.sz + j)).take k := by
  obtain ⟨e, sz, c⟩ := x
  cases c with
  | cells l =>
    cases i with
    | zero => exact ⟨l.length, by simp [Row.at, RC.flat]; rw [List.take_of_length_le (by simp)]⟩
    | succ i => exact ⟨sz - j, by simp only [Row.at, RC.flat]; rw [List.drop_take, List.drop_drop]⟩
  | list t xs =>
    simp only [Row.okc] at h
    subst h
    exact ⟨csz t - j, by simp only [Row.at, RC.flat]; rw [← flatMap_at t xs i hi, List.drop_take, List.drop_drop]⟩
  | _ => simp [Row.count] at hi

/-! ### Look, put, delete -/
theorem look_put (m : Rows) (r : Nat) (x : Row) (q : Nat) : look (putR m r x) q = if r = q then some x else look m q := by
  induction m with
  | nil => simp [putR, look]
  | cons p l ih =>
    obtain ⟨k, v⟩ := p
    simp only [putR]
    by_cases hk : k = r
    · subst hk
      simp only [if_true, look]
      split <;> simp_all
    · simp only [hk, if_false, look, ih]
      by_cases hq : k = q
      · subst hq; simp [Ne.symm hk]
      · simp [hq]

theorem look_del (m : Rows) (r q : Nat) : look (delR m r) q = if r = q then none else look m q := by
  induction m with
  | nil => simp [delR, look]
  | cons p l ih =>
    obtain ⟨k, v⟩ := p
    simp only [delR]
    by_cases hk : k = r
    · subst hk
      simp only [if_true, ih, look]
      split <;> simp_all
    · simp only [hk, if_false, look, ih]
      by_cases hq : k = q
      · subst hq; simp [Ne.symm hk]
      · simp [hq]

def upd (ρ : Nat → Loc) (q : Nat) (l : Loc) (r : Nat) : Loc := if q = r then l else ρ r
theorem upd_same (ρ q l) : upd ρ q l q = l := by simp [upd]
theorem upd_other {ρ q l r} (h : q ≠ r) : upd ρ q l r = ρ r := by simp [upd, h]

theorem Ext.born {ρ : Nat → Loc} {q : Nat} (h : ρ q = .unborn) (l : Loc) : Ext ρ (upd ρ q l) := fun r => by
  by_cases e : q = r
  · subst e; exact .inr (.inr h)
  · exact .inl (upd_other e)
theorem Ext.del (ρ : Nat → Loc) (q : Nat) : Ext ρ (upd ρ q .gone) := fun r => by
  by_cases e : q = r
  · subst e; exact .inr (.inl (upd_same _ _ _))
  · exact .inl (upd_other e)
theorem Ext.trans {a b c : Nat → Loc} (h : Ext a b) (h' : Ext b c) : Ext a c := fun r => by
  rcases h' r with e | e | e
  · rw [e]; exact h r
  · exact .inr (.inl e)
  · rcases h r with f | f | f
    · exact .inr (.inr (f ▸ e))
    · rw [f] at e; cases e
    · exact .inr (.inr f)

/-- One row turns, the others stay. -/
theorem RowOK.keep {w w' Im ρ ρ' m r x} (h : RS w Im ρ m) (hx : RowOK w Im ρ r x) (hk : Kp (ownB ρ) w w') (hE : Ext ρ ρ') (hr : ρ' r = ρ r)
    (hb : ∀ g n q, ρ r = .blk g n q → w'.heap[g]? = w.heap[g]?) : RowOK w' Im ρ' r x := by
  obtain ⟨h1, h2, h3⟩ := hx
  refine ⟨h1, h2, ?_⟩
  rw [hr]
  cases e : ρ r with
  | unborn => rw [e] at h3; exact h3
  | gone => rw [e] at h3; exact h3
  | virt => rw [e] at h3; exact h3
  | blk g n cap =>
    rw [e] at h3
    exact h3.mono (fun b hb => h.im_same hk b hb) (fun _ h => h) hE (hb g n cap e)

theorem heap_alloc_at (w : World) (o : Obj) (b : Nat) (h : b < w.heap.size) : (w.alloc o).heap[b]? = w.heap[b]? := heap_alloc_old w o b h

theorem Kp.alloc (A : Nat → Prop) (w : World) (o : Obj) : Kp A w (w.alloc o) :=
  ⟨rfl, rfl, rfl, by simp, fun b hb _ => heap_alloc_at w o b hb⟩

/-- Where no block of the rows is written, all is as it was. -/
theorem Eff.keep {nb Im ρ m w w'} (h : RS w Im ρ m) (hk0 : Kp (fun _ => False) w w') : Eff nb Im ρ w Im ρ m w' :=
  have hk : Kp (ownB ρ) w w' := ⟨hk0.os, hk0.tape, hk0.output, hk0.size, fun b hb _ => hk0.blk b hb (fun h => h)⟩
  ⟨⟨fun r y hl => RowOK.keep h (h.row r y hl) hk (Ext.refl _) rfl (fun g n c e' => hk0.blk g (h.lt e') (fun h => h)), h.gone, h.inj, h.noim, fun b hb => Nat.lt_of_lt_of_le (h.imlt b hb) hk0.size, h.gd_keep hk⟩, hk, Ext.refl _, fun _ h => h, fun _ h => .inl h, fun _ h => .inr h, fun _ h _ => h⟩

/-- A new row in a new block. -/
theorem Eff.newB {nb Im ρ m w w'} (h : RS w Im ρ m) {q : Nat} (hq : ρ q = .unborn) (hr : nb ≤ q ∧ q < nb + 64) {x : Row} {n cap : Nat}
    (h0 : 0 < x.sz) (hok : x.okc) (hk0 : Kp (fun _ => False) w w') {g0 : Nat} (hg0 : w.heap.size ≤ g0) (hb : Kp (ownB ρ) w w' → ∀ ρ', Ext ρ ρ' → ρ' q = .blk g0 n cap → BOK w' Im ρ' x g0 n cap) :
    Eff nb Im ρ w Im (upd ρ q (.blk g0 n cap)) (putR m q x) w' := by
  have hk : Kp (ownB ρ) w w' := ⟨hk0.os, hk0.tape, hk0.output, hk0.size, fun b hb _ => hk0.blk b hb (fun h => h)⟩
  have hE := Ext.born hq (.blk g0 n cap)
  refine ⟨⟨?_, ?_, ?_, ?_, ?_, h.gd_keep hk⟩, hk, hE, fun _ h => h, fun _ h => .inl h, ?_, ?_⟩
  · intro r y hl
    rw [look_put] at hl
    by_cases e : q = r
    · subst e
      simp only [if_true, Option.some.injEq] at hl
      subst hl
      refine ⟨h0, hok, ?_⟩
      rw [upd_same]
      exact hb hk _ hE (upd_same ..)
    · rw [if_neg e] at hl
      exact RowOK.keep h (h.row r y hl) hk hE (upd_other e) (fun g n c e' => hk0.blk g (h.lt e') (fun h => h))
  · intro r hl
    rw [look_put] at hl
    by_cases e : q = r
    · simp [e] at hl
    · rw [if_neg e] at hl; rw [upd_other e]; exact h.gone r hl
  · intro r r' g n c n' c' e1 e2
    by_cases a : q = r <;> by_cases b : q = r'
    · exact a.symm.trans b
    · subst a
      rw [upd_same] at e1; cases e1
      rw [upd_other b] at e2
      have := h.lt e2; omega
    · subst b
      rw [upd_same] at e2; cases e2
      rw [upd_other a] at e1
      have := h.lt e1; omega
    · rw [upd_other a] at e1; rw [upd_other b] at e2
      exact h.inj r r' g n c n' c' e1 e2
  · intro r g n c e1 him
    by_cases a : q = r
    · subst a
      rw [upd_same] at e1; cases e1
      have := h.imlt _ him; omega
    · rw [upd_other a] at e1; exact h.noim r g n c e1 him
  · intro b hb
    have := h.imlt b hb
    exact Nat.lt_of_lt_of_le this hk.size
  · rintro b ⟨r, n, c, e1⟩
    by_cases a : q = r
    · subst a
      rw [upd_same] at e1; cases e1
      exact .inl hg0
    · rw [upd_other a] at e1; exact .inr ⟨r, n, c, e1⟩
  · intro r e1 e2
    rw [upd_other (by intro e; subst e; exact e2 hr)]; exact e1

theorem Eff.new {nb Im ρ m w w'} (h : RS w Im ρ m) {q : Nat} (hq : ρ q = .unborn) (hr : nb ≤ q ∧ q < nb + 64) {x : Row} {cur : Array Value} {cap : Nat}
    (h0 : 0 < x.sz) (hok : x.okc) (hn : x.count ≤ cap) (hm : cap ≤ maxLen) (hs : cur.size = cap * x.sz) (hv : VRs w Im ρ x.c.flat (cur.toList.take (x.count * x.sz))) {fr : Nat × Nat} (hf : NF fr cur.size)
    (hk0 : Kp (fun _ => False) w w') {g0 : Nat} (hg0 : w.heap.size ≤ g0) (hnew : w'.heap[g0]? = some (.cells cur x.e fr)) (hx : x.c.isObj = false := by rfl) :
    Eff nb Im ρ w Im (upd ρ q (.blk g0 x.count cap)) (putR m q x) w' :=
  Eff.newB h hq hr h0 hok hk0 hg0 fun hk ρ' hE _ => BOK.of hx ⟨cur, fr, hnew, hf, rfl, hn, hm, hs, VRs_mono (fun b hb => h.im_same hk b hb) (fun _ h => h) hE _ _ hv⟩

/-- An empty row that lies nowhere. -/
theorem Eff.virt {nb Im ρ m w} (h : RS w Im ρ m) {q : Nat} (hq : ρ q = .unborn) (hr : nb ≤ q ∧ q < nb + 64) {x : Row}
    (h0 : 0 < x.sz) (hok : x.okc) (hn : x.count = 0) (hx : x.c.isObj = false := by rfl) : Eff nb Im ρ w Im (upd ρ q .virt) (putR m q x) w := by
  have hE := Ext.born hq .virt
  refine ⟨⟨?_, ?_, ?_, ?_, h.imlt, h.gd⟩, Kp.refl _ _, hE, fun _ h => h, fun _ h => .inl h, ?_, ?_⟩
  · intro r y hl
    rw [look_put] at hl
    by_cases e : q = r
    · subst e
      simp only [if_true, Option.some.injEq] at hl
      subst hl
      refine ⟨h0, hok, ?_⟩
      rw [upd_same]; exact ⟨hn, hx⟩
    · rw [if_neg e] at hl
      exact RowOK.keep h (h.row r y hl) (Kp.refl _ _) hE (upd_other e) (fun _ _ _ _ => rfl)
  · intro r hl
    rw [look_put] at hl
    by_cases e : q = r
    · simp [e] at hl
    · rw [if_neg e] at hl; rw [upd_other e]; exact h.gone r hl
  · intro r r' g n c n' c' e1 e2
    by_cases a : q = r
    · subst a; rw [upd_same] at e1; cases e1
    by_cases b : q = r'
    · subst b; rw [upd_same] at e2; cases e2
    rw [upd_other a] at e1; rw [upd_other b] at e2
    exact h.inj r r' g n c n' c' e1 e2
  · intro r g n c e1
    by_cases a : q = r
    · subst a; rw [upd_same] at e1; cases e1
    rw [upd_other a] at e1; exact h.noim r g n c e1
  · rintro b ⟨r, n, c, e1⟩
    by_cases a : q = r
    · subst a; rw [upd_same] at e1; cases e1
    · rw [upd_other a] at e1; exact .inr ⟨r, n, c, e1⟩
  · intro r e1 e2
    rw [upd_other (by intro e; subst e; exact e2 hr)]; exact e1

/-- A row's cells turn. -/
theorem Eff.setB {nb Im ρ m w w'} (h : RS w Im ρ m) {r : Nat} {x y : Row} (hl : look m r = some x) {g n cap : Nat} (hr : ρ r = .blk g n cap)
    (hk : Kp (fun b => b = g) w w') (h0 : 0 < y.sz) (hok : y.okc) (hb : Kp (ownB ρ) w w' → BOK w' Im ρ y g n cap) :
    Eff nb Im ρ w Im ρ (putR m r y) w' := by
  have hk' : Kp (ownB ρ) w w' := ⟨hk.os, hk.tape, hk.output, hk.size, fun b hb hn => hk.blk b hb (fun e => hn ⟨r, n, cap, e ▸ hr⟩)⟩
  refine ⟨⟨?_, ?_, h.inj, h.noim, fun b hb => Nat.lt_of_lt_of_le (h.imlt b hb) hk.size, h.gd_keep hk'⟩, hk', Ext.refl _, fun _ h => h, fun _ h => .inl h, fun b hb => .inr hb, fun _ h _ => h⟩
  · intro q z hz
    rw [look_put] at hz
    by_cases e : r = q
    · subst e
      simp only [if_true, Option.some.injEq] at hz
      subst hz
      refine ⟨h0, hok, ?_⟩
      rw [hr]
      exact hb hk'
    · rw [if_neg e] at hz
      refine RowOK.keep h (h.row q z hz) hk' (Ext.refl _) rfl (fun g' n' c' e' => hk.blk g' (h.lt e') (fun e'' => e ?_))
      subst e''
      exact h.inj _ _ _ _ _ _ _ hr e'
  · intro q hz
    rw [look_put] at hz
    by_cases e : r = q
    · simp [e] at hz
    · rw [if_neg e] at hz; exact h.gone q hz

theorem Eff.set {nb Im ρ m w w'} (h : RS w Im ρ m) {r : Nat} {x y : Row} (hl : look m r = some x) {g n cap : Nat} (hr : ρ r = .blk g n cap)
    {cur : Array Value} {fr : Nat × Nat} (hg : w'.heap[g]? = some (.cells cur y.e fr)) (hf : NF fr cur.size) (hk : Kp (fun b => b = g) w w')
    (h0 : 0 < y.sz) (hok : y.okc) (hc : y.count = n) (hn : n ≤ cap) (hm : cap ≤ maxLen) (hs : cur.size = cap * y.sz) (hv : VRs w Im ρ y.c.flat (cur.toList.take (n * y.sz))) (hx : y.c.isObj = false := by rfl) :
    Eff nb Im ρ w Im ρ (putR m r y) w' :=
  Eff.setB h hl hr hk h0 hok fun hk' => BOK.of hx ⟨cur, fr, hg, hf, hc, hn, hm, hs, VRs_mono (fun b hb => h.im_same hk' b hb) (fun _ h => h) (Ext.refl _) _ _ hv⟩

/-- A row gets another name and other cells. -/
theorem Eff.move {nb Im ρ m w w'} (h : RS w Im ρ m) {r q : Nat} {y : Row} {g n cap n' cap' : Nat} (hr : ρ r = .blk g n cap) (hq : ρ q = .unborn) (hqr : nb ≤ q ∧ q < nb + 64)
    {cur : Array Value} {fr : Nat × Nat} (hg : w'.heap[g]? = some (.cells cur y.e fr)) (hf : NF fr cur.size) (hk : Kp (fun b => b = g) w w')
    (h0 : 0 < y.sz) (hok : y.okc) (hc : y.count = n') (hn : n' ≤ cap') (hm : cap' ≤ maxLen) (hs : cur.size = cap' * y.sz) (hv : VRs w Im ρ y.c.flat (cur.toList.take (n' * y.sz))) (hx : y.c.isObj = false := by rfl) :
    Eff nb Im ρ w Im (upd (upd ρ r .gone) q (.blk g n' cap')) (putR (delR m r) q y) w' := by
  have hk' : Kp (ownB ρ) w w' := ⟨hk.os, hk.tape, hk.output, hk.size, fun b hb hn => hk.blk b hb (fun e => hn ⟨r, n, cap, e ▸ hr⟩)⟩
  have hqn : r ≠ q := fun e => by subst e; rw [hr] at hq; cases hq
  have hE : Ext ρ (upd (upd ρ r .gone) q (.blk g n' cap')) := fun a => by
    by_cases e : q = a
    · subst e; exact .inr (.inr hq)
    · rw [upd_other e]
      by_cases e' : r = a
      · subst e'; exact .inr (.inl (upd_same _ _ _))
      · exact .inl (upd_other e')
  have hnb : ∀ a b c d, q ≠ a → upd (upd ρ r .gone) q (.blk g n' cap') a = .blk b c d → r ≠ a ∧ ρ a = .blk b c d := by
    intro a b c d e e1
    rw [upd_other e] at e1
    by_cases e' : r = a
    · subst e'; rw [upd_same] at e1; cases e1
    · rw [upd_other e'] at e1; exact ⟨e', e1⟩
  refine ⟨⟨?_, ?_, ?_, ?_, fun b hb => Nat.lt_of_lt_of_le (h.imlt b hb) hk.size, h.gd_keep hk'⟩, hk', hE, fun _ h => h, fun _ h => .inl h, ?_, ?_⟩
  · intro a z hz
    rw [look_put] at hz
    by_cases e : q = a
    · subst e
      simp only [if_true, Option.some.injEq] at hz
      subst hz
      refine ⟨h0, hok, ?_⟩
      rw [upd_same]
      exact BOK.of hx ⟨cur, fr, hg, hf, hc, hn, hm, hs, VRs_mono (fun b hb => h.im_same hk' b hb) (fun _ h => h) hE _ _ hv⟩
    · rw [if_neg e, look_del] at hz
      by_cases e' : r = a
      · simp [e'] at hz
      · rw [if_neg e'] at hz
        refine RowOK.keep h (h.row a z hz) hk' hE (by rw [upd_other e, upd_other e']) (fun g' n'' c'' e'' => hk.blk g' (h.lt e'') (fun e3 => e' ?_))
        subst e3
        exact h.inj _ _ _ _ _ _ _ hr e''
  · intro a hz
    rw [look_put] at hz
    by_cases e : q = a
    · simp [e] at hz
    · rw [if_neg e, look_del] at hz
      rw [upd_other e]
      by_cases e' : r = a
      · subst e'; rw [upd_same]; exact .inl rfl
      · rw [if_neg e'] at hz; rw [upd_other e']; exact h.gone a hz
  · intro a b g' n1 c1 n2 c2 e1 e2
    by_cases ea : q = a <;> by_cases eb : q = b
    · exact ea.symm.trans eb
    · subst ea
      rw [upd_same] at e1; cases e1
      obtain ⟨x1, x2⟩ := hnb _ _ _ _ eb e2
      exact absurd (h.inj _ _ _ _ _ _ _ hr x2) x1
    · subst eb
      rw [upd_same] at e2; cases e2
      obtain ⟨x1, x2⟩ := hnb _ _ _ _ ea e1
      exact absurd (h.inj _ _ _ _ _ _ _ hr x2) x1
    · exact h.inj _ _ _ _ _ _ _ (hnb _ _ _ _ ea e1).2 (hnb _ _ _ _ eb e2).2
  · intro a g' n1 c1 e1
    by_cases ea : q = a
    · subst ea; rw [upd_same] at e1; cases e1; exact h.noim _ _ _ _ hr
    · exact h.noim _ _ _ _ (hnb _ _ _ _ ea e1).2
  · rintro b ⟨a, n1, c1, e1⟩
    by_cases ea : q = a
    · subst ea; rw [upd_same] at e1; cases e1; exact .inr ⟨r, n, cap, hr⟩
    · exact .inr ⟨a, n1, c1, (hnb _ _ _ _ ea e1).2⟩
  · intro a e1 e2
    rw [upd_other (by intro e; subst e; exact e2 hqr)]
    by_cases e' : r = a
    · subst e'; rw [hr] at e1; cases e1
    · rw [upd_other e']; exact e1

/-- A row goes. -/
theorem Eff.del {nb Im ρ m w} (h : RS w Im ρ m) (r : Nat) : Eff nb Im ρ w Im (upd ρ r (if ρ r = .unborn then .unborn else .gone)) (delR m r) w := by
  have hE : Ext ρ (upd ρ r (if ρ r = .unborn then .unborn else .gone)) := fun q => by
    by_cases e : r = q
    · subst e
      rw [upd_same]
      split
      · rename_i hu; exact .inl hu.symm
      · exact .inr (.inl rfl)
    · exact .inl (upd_other e)
  have hnb : ∀ q g n c, upd ρ r (if ρ r = .unborn then .unborn else .gone) q = .blk g n c → ρ q = .blk g n c := by
    intro q g n c e1
    by_cases e : r = q
    · subst e; rw [upd_same] at e1; split at e1 <;> cases e1
    · rwa [upd_other e] at e1
  refine ⟨⟨?_, ?_, ?_, ?_, h.imlt, h.gd⟩, Kp.refl _ _, hE, fun _ h => h, fun _ h => .inl h, ?_, ?_⟩
  · intro q y hl
    rw [look_del] at hl
    by_cases e : r = q
    · simp [e] at hl
    · rw [if_neg e] at hl
      exact RowOK.keep h (h.row q y hl) (Kp.refl _ _) hE (upd_other e) (fun _ _ _ _ => rfl)
  · intro q hl
    by_cases e : r = q
    · subst e
      rw [upd_same]
      split
      · exact .inr rfl
      · exact .inl rfl
    · rw [look_del, if_neg e] at hl; rw [upd_other e]; exact h.gone q hl
  · intro a b g n c n' c' e1 e2
    exact h.inj a b g n c n' c' (hnb _ _ _ _ e1) (hnb _ _ _ _ e2)
  · intro a g n c e1; exact h.noim a g n c (hnb _ _ _ _ e1)
  · rintro b ⟨a, n, c, e1⟩; exact .inr ⟨a, n, c, hnb _ _ _ _ e1⟩
  · intro q e1 _
    by_cases e : r = q
    · subst e; rw [upd_same, if_pos e1]
    · rw [upd_other e]; exact e1

theorem Eff.trans {nb Im ρ w Im' ρ' m' w' Im'' ρ'' m'' w''} (h : Eff nb Im ρ w Im' ρ' m' w') (h' : Eff nb Im' ρ' w' Im'' ρ'' m'' w'') : Eff nb Im ρ w Im'' ρ'' m'' w'' := by
  refine ⟨h'.rs, ?_, h.ext.trans h'.ext, fun b hb => h'.imI b (h.imI b hb), ?_, ?_, fun q e1 e2 => h'.born q (h.born q e1 e2) e2⟩
  · exact h.kp.trans h'.kp (fun _ h => h) (fun b hb => (h.own b hb).symm)
  · intro b hb
    have := h.kp.size
    rcases h'.imN b hb with e | e | e
    · exact h.imN b e
    · exact .inr (.inl (by omega))
    · exact .inr (h.own b e)
  · intro b hb
    have := h.kp.size
    rcases h'.own b hb with e | e
    · exact .inl (by omega)
    · exact h.own b e
end Go.Proofs.YtfogafinohfpfaaGreatDoorV
