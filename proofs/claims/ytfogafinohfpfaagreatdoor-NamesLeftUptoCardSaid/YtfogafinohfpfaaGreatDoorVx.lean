/- Patterns of states, trees of what is asked, and tables made of them. -/
import Derived.Test.YtfogafinohfpfaaGreatDoorVu
import Derived.Test.YtfogafinohfpfaaGreatDoorVs3
namespace Go.Proofs.YtfogafinohfpfaaGreatDoorV
open Go.RowKit
set_option linter.unusedVariables false
set_option linter.unusedSimpArgs false

/-! ### Patterns -/
inductive Pat where
  | dead
  | val (t : Ty)
  | agg (l : List Pat)
  | tup (l : List Pat)
  | nilp
  | ptr (r sz j : Nat)
  | ptr0 (r sz j : Nat)
  | icell (l : List Pat)
  | nils (e : TypeId)
  | own (r sz : Nat)
  | sl (r sz : Nat)
  | nili
  | iface (t : TypeId) (p : Pat)
  | nilf
  | fn (f : FuncId) (l : List Pat)
  | nilm
  | oref (k : RK) (r : Nat)
  /-- what is known already -/
  | kint (k : IntKind) (n : Int)
  | kstr (s : ByteArray)
  | kbool (b : Bool)

mutual
def Pat.tele : Pat → Type → Type
  | .val t, T => El t × T
  | .agg l, T => Pat.teleL l T
  | .tup l, T => Pat.teleL l T
  | .icell l, T => Pat.teleL l T
  | .fn _ l, T => Pat.teleL l T
  | .iface _ p, T => Pat.tele p T
  | .ptr _ _ _, T => Nat × T
  | .sl _ _, T => Nat × (Nat × T)
  | .dead, T => T
  | .nilp, T => T
  | .nils _, T => T
  | .own _ _, T => T
  | .ptr0 _ _ _, T => T
  | .nili, T => T
  | .nilf, T => T
  | .nilm, T => T
  | .oref _ _, T => T
  | .kint _ _, T => T
  | .kstr _, T => T
  | .kbool _, T => T
def Pat.teleL : List Pat → Type → Type
  | [], T => T
  | p :: l, T => Pat.tele p (Pat.teleL l T)
end

def dec1 : (t : Ty) → AV → Option (El t)
  | .int k, .int k' n => if k' = k then some n else none
  | .bool, .bool b => some b
  | .str, .str s => some s
  | .list t, .imm t' xs => if h : t' = t then some (h ▸ xs) else none
  | _, _ => none

mutual
def Pat.enc : (p : Pat) → {T : Type} → Pat.tele p T → AV × T
  | .val t, _, x => (av1 t x.1, x.2)
  | .agg l, _, x => (.agg (Pat.encL l x).1, (Pat.encL l x).2)
  | .tup l, _, x => (.tup (Pat.encL l x).1, (Pat.encL l x).2)
  | .icell l, _, x => (.icell (Pat.encL l x).1, (Pat.encL l x).2)
  | .fn f l, _, x => (.fn f (Pat.encL l x).1, (Pat.encL l x).2)
  | .iface t p, _, x => (.iface t (Pat.enc p x).1, (Pat.enc p x).2)
  | .ptr r sz j, _, x => (.ptr r x.1 sz j, x.2)
  | .sl r sz, _, x => (.sl r sz x.1 x.2.1, x.2.2)
  | .dead, _, x => (.dead, x)
  | .nilp, _, x => (.nilp, x)
  | .nils e, _, x => (.nils e, x)
  | .own r sz, _, x => (.own r sz, x)
  | .ptr0 r sz j, _, x => (.ptr r 0 sz j, x)
  | .nili, _, x => (.nili, x)
  | .nilf, _, x => (.nilf, x)
  | .nilm, _, x => (.nilm, x)
  | .oref k r, _, x => (.oref k r, x)
  | .kint k n, _, x => (.int k n, x)
  | .kstr s, _, x => (.str s, x)
  | .kbool b, _, x => (.bool b, x)
def Pat.encL : (l : List Pat) → {T : Type} → Pat.teleL l T → List AV × T
  | [], _, x => ([], x)
  | p :: l, _, x => ((Pat.enc p x).1 :: (Pat.encL l (Pat.enc p x).2).1, (Pat.encL l (Pat.enc p x).2).2)
end

def AV.aggL : AV → Option (List AV) | .agg l => some l | _ => none
def AV.tupL : AV → Option (List AV) | .tup l => some l | _ => none
def AV.cellL : AV → Option (List AV) | .icell l => some l | _ => none
def AV.fnL (f : FuncId) : AV → Option (List AV) | .fn f' l => if f' = f then some l else none | _ => none
def AV.ifaceV (t : TypeId) : AV → Option AV | .iface t' v => if t' = t then some v else none | _ => none
def AV.ptrI (r sz j : Nat) : AV → Option Nat | .ptr r' i sz' j' => if r' = r ∧ sz' = sz ∧ j' = j then some i else none | _ => none
def AV.slI (r sz : Nat) : AV → Option (Nat × Nat) | .sl r' sz' off len => if r' = r ∧ sz' = sz then some (off, len) else none | _ => none
/-- Values that hold nothing. -/
def AV.isP : Pat → AV → Bool
  | .dead, .dead => true
  | .nilp, .nilp => true
  | .nils e, .nils e' => decide (e' = e)
  | .own r sz, .own r' sz' => decide (r' = r) && decide (sz' = sz)
  | .ptr0 r sz j, .ptr r' i sz' j' => decide (r' = r) && (decide (i = 0) && (decide (sz' = sz) && decide (j' = j)))
  | .nili, .nili => true
  | .nilf, .nilf => true
  | .nilm, .nilm => true
  | .oref .yield r, .oref .yield r' => decide (r' = r)
  | .oref .map r, .oref .map r' => decide (r' = r)
  | .oref .iter r, .oref .iter r' => decide (r' = r)
  | .oref .opt r, .oref .opt r' => decide (r' = r)
  | .oref .data r, .oref .data r' => decide (r' = r)
  | .oref .buf r, .oref .buf r' => decide (r' = r)
  | .kint k n, .int k' n' => decide (k' = k) && decide (n' = n)
  | .kstr s, .str s' => decide (s' = s)
  | .kbool b, .bool b' => decide (b' = b)
  | _, _ => false

theorem aggL_ok {v l} (h : AV.aggL v = some l) : v = .agg l := by
  unfold AV.aggL at h; split at h <;> cases h; rfl
theorem tupL_ok {v l} (h : AV.tupL v = some l) : v = .tup l := by
  unfold AV.tupL at h; split at h <;> cases h; rfl
theorem cellL_ok {v l} (h : AV.cellL v = some l) : v = .icell l := by
  unfold AV.cellL at h; split at h <;> cases h; rfl
theorem fnL_ok {f v l} (h : AV.fnL f v = some l) : v = .fn f l := by
  unfold AV.fnL at h; split at h
  · split at h
    · rename_i e; subst e; cases h; rfl
    · cases h
  · cases h
theorem ifaceV_ok {t v l} (h : AV.ifaceV t v = some l) : v = .iface t l := by
  unfold AV.ifaceV at h; split at h
  · split at h
    · rename_i e; subst e; cases h; rfl
    · cases h
  · cases h
theorem ptrI_ok {r sz j v i} (h : AV.ptrI r sz j v = some i) : v = .ptr r i sz j := by
  unfold AV.ptrI at h; split at h
  · split at h
    · rename_i e; obtain ⟨rfl, rfl, rfl⟩ := e; cases h; rfl
    · cases h
  · cases h
theorem slI_ok {r sz v i} (h : AV.slI r sz v = some i) : v = .sl r sz i.1 i.2 := by
  unfold AV.slI at h; split at h
  · split at h
    · rename_i e; obtain ⟨rfl, rfl⟩ := e; cases h; rfl
    · cases h
  · cases h

mutual
def Pat.dec : (p : Pat) → AV → {T : Type} → T → Option (Pat.tele p T)
  | .val t, v, _, x => match dec1 t v with
    | some y => some (y, x)
    | none => none
  | .agg l, v, _, x => match v.aggL with
    | some vs => Pat.decL l vs x
    | none => none
  | .tup l, v, _, x => match v.tupL with
    | some vs => Pat.decL l vs x
    | none => none
  | .icell l, v, _, x => match v.cellL with
    | some vs => Pat.decL l vs x
    | none => none
  | .fn f l, v, _, x => match v.fnL f with
    | some vs => Pat.decL l vs x
    | none => none
  | .iface t p, v, _, x => match v.ifaceV t with
    | some u => Pat.dec p u x
    | none => none
  | .ptr r sz j, v, _, x => match v.ptrI r sz j with
    | some i => some (i, x)
    | none => none
  | .sl r sz, v, _, x => match v.slI r sz with
    | some i => some (i.1, i.2, x)
    | none => none
  | .dead, v, _, x => bif AV.isP .dead v then some x else none
  | .nilp, v, _, x => bif AV.isP .nilp v then some x else none
  | .nils e, v, _, x => bif AV.isP (.nils e) v then some x else none
  | .own r sz, v, _, x => bif AV.isP (.own r sz) v then some x else none
  | .ptr0 r sz j, v, _, x => bif AV.isP (.ptr0 r sz j) v then some x else none
  | .nili, v, _, x => bif AV.isP .nili v then some x else none
  | .nilf, v, _, x => bif AV.isP .nilf v then some x else none
  | .nilm, v, _, x => bif AV.isP .nilm v then some x else none
  | .oref k r, v, _, x => bif AV.isP (.oref k r) v then some x else none
  | .kint k n, v, _, x => bif AV.isP (.kint k n) v then some x else none
  | .kstr s, v, _, x => bif AV.isP (.kstr s) v then some x else none
  | .kbool b, v, _, x => bif AV.isP (.kbool b) v then some x else none
def Pat.decL : (l : List Pat) → List AV → {T : Type} → T → Option (Pat.teleL l T)
  | [], vs, _, x => match vs with
    | [] => some x
    | _ => none
  | p :: l, vs, _, x => match vs with
    | v :: vs => match Pat.decL l vs x with
      | some y => Pat.dec p v y
      | none => none
    | [] => none
end

theorem dec1_ok {t : Ty} {v : AV} {x : El t} (h : dec1 t v = some x) : av1 t x = v := by
  unfold dec1 at h
  split at h
  · split at h
    · rename_i e; subst e; cases h; rfl
    · cases h
  · cases h; rfl
  · cases h; rfl
  · split at h
    · rename_i e; subst e; cases h; rfl
    · cases h
  · cases h

theorem cond_some {α : Type} {c : Bool} {a : α} {r : α} (h : (bif c then some a else none) = some r) : c = true ∧ a = r := by
  cases c
  · cases h
  · cases h; exact ⟨rfl, rfl⟩

mutual
theorem pdec_ok : ∀ (p : Pat) (v : AV) {T : Type} (x : T) (y : Pat.tele p T), Pat.dec p v x = some y → Pat.enc p y = (v, x)
  | .val t, v, T, x, y, h => by
    simp only [Pat.dec] at h
    split at h
    · rename_i z hz
      cases h
      simp only [Pat.enc, dec1_ok hz]
    · cases h
  | .agg l, v, T, x, y, h => by
    simp only [Pat.dec] at h
    split at h
    · rename_i vs hv
      simp only [Pat.enc, decL_ok l _ x y h, aggL_ok hv]
    · cases h
  | .tup l, v, T, x, y, h => by
    simp only [Pat.dec] at h
    split at h
    · rename_i vs hv
      simp only [Pat.enc, decL_ok l _ x y h, tupL_ok hv]
    · cases h
  | .icell l, v, T, x, y, h => by
    simp only [Pat.dec] at h
    split at h
    · rename_i vs hv
      simp only [Pat.enc, decL_ok l _ x y h, cellL_ok hv]
    · cases h
  | .fn f l, v, T, x, y, h => by
    simp only [Pat.dec] at h
    split at h
    · rename_i vs hv
      simp only [Pat.enc, decL_ok l _ x y h, fnL_ok hv]
    · cases h
  | .iface t p, v, T, x, y, h => by
    simp only [Pat.dec] at h
    split at h
    · rename_i u hv
      simp only [Pat.enc, pdec_ok p _ x y h, ifaceV_ok hv]
    · cases h
  | .ptr r sz j, v, T, x, y, h => by
    simp only [Pat.dec] at h
    split at h
    · rename_i u hv
      cases h
      simp only [Pat.enc, ptrI_ok hv]
    · cases h
  | .sl r sz, v, T, x, y, h => by
    simp only [Pat.dec] at h
    split at h
    · rename_i u hv
      cases h
      simp only [Pat.enc, slI_ok hv]
    · cases h
  | .dead, v, T, x, y, h => by
    simp only [Pat.dec] at h
    obtain ⟨hc, rfl⟩ := cond_some h
    cases v <;> first | rfl | (simp [AV.isP] at hc)
  | .nilp, v, T, x, y, h => by
    simp only [Pat.dec] at h
    obtain ⟨hc, rfl⟩ := cond_some h
    cases v <;> first | rfl | (simp [AV.isP] at hc)
  | .nils e, v, T, x, y, h => by
    simp only [Pat.dec] at h
    obtain ⟨hc, rfl⟩ := cond_some h
    cases v <;> simp [AV.isP] at hc
    subst hc; rfl
  | .own r sz, v, T, x, y, h => by
    simp only [Pat.dec] at h
    obtain ⟨hc, rfl⟩ := cond_some h
    cases v <;> simp [AV.isP] at hc
    obtain ⟨rfl, rfl⟩ := hc; rfl
  | .ptr0 r sz j, v, T, x, y, h => by
    simp only [Pat.dec] at h
    obtain ⟨hc, rfl⟩ := cond_some h
    cases v <;> simp [AV.isP] at hc
    obtain ⟨rfl, rfl, rfl, rfl⟩ := hc; rfl
  | .nili, v, T, x, y, h => by
    simp only [Pat.dec] at h
    obtain ⟨hc, rfl⟩ := cond_some h
    cases v <;> first | rfl | (simp [AV.isP] at hc)
  | .nilf, v, T, x, y, h => by
    simp only [Pat.dec] at h
    obtain ⟨hc, rfl⟩ := cond_some h
    cases v <;> first | rfl | (simp [AV.isP] at hc)
  | .nilm, v, T, x, y, h => by
    simp only [Pat.dec] at h
    obtain ⟨hc, rfl⟩ := cond_some h
    cases v <;> first | rfl | (simp [AV.isP] at hc)
  | .oref k r, v, T, x, y, h => by
    simp only [Pat.dec] at h
    obtain ⟨hc, rfl⟩ := cond_some h
    cases k <;> cases v <;> simp [AV.isP] at hc <;> (rename_i k' r'; cases k' <;> simp at hc <;> subst hc <;> rfl)
  | .kint k n, v, T, x, y, h => by
    simp only [Pat.dec] at h
    obtain ⟨hc, rfl⟩ := cond_some h
    cases v <;> simp [AV.isP] at hc
    obtain ⟨rfl, rfl⟩ := hc; rfl
  | .kstr s, v, T, x, y, h => by
    simp only [Pat.dec] at h
    obtain ⟨hc, rfl⟩ := cond_some h
    cases v <;> simp [AV.isP] at hc
    subst hc; rfl
  | .kbool b, v, T, x, y, h => by
    simp only [Pat.dec] at h
    obtain ⟨hc, rfl⟩ := cond_some h
    cases v <;> simp [AV.isP] at hc
    subst hc; rfl
theorem decL_ok : ∀ (l : List Pat) (vs : List AV) {T : Type} (x : T) (y : Pat.teleL l T), Pat.decL l vs x = some y → Pat.encL l y = (vs, x)
  | [], vs, T, x, y, h => by
    simp only [Pat.decL] at h
    split at h
    · cases h; rfl
    · cases h
  | p :: l, vs, T, x, y, h => by
    simp only [Pat.decL] at h
    split at h
    · split at h
      · rename_i z hz
        have h1 := decL_ok l _ x z hz
        have h2 := pdec_ok p _ z y h
        simp only [Pat.encL, h2, h1]
      · cases h
    · cases h
end

/-- So many dead ones ahead. -/
def dds : Nat → List Pat → List Pat
  | 0, l => l
  | n + 1, l => .dead :: dds n l

inductive RCP where
  | cells (l : List Pat)
  | list (t : Ty)
  | loop (id : Nat) (l : List Pat)
  | loopc (id st : Nat) (l : List Pat)
  | map (k v : Ty)
  | siter

structure RPat where
  e : TypeId
  sz : Nat
  c : RCP

def RPat.tele (r : RPat) (T : Type) : Type := match r.c with
  | .cells l => Pat.teleL l T
  | .list t => List (El t) × T
  | .loop _ l => Nat × Pat.teleL l T
  | .loopc _ _ l => Pat.teleL l T
  | .map k v => List (El k × El v) × T
  | .siter => ByteArray × (Nat × T)

def RPat.enc : (r : RPat) → {T : Type} → r.tele T → Row × T
  | ⟨e, sz, .loop id l⟩, _, x => (⟨e, sz, .loop id x.1 (Pat.encL l x.2).1⟩, (Pat.encL l x.2).2)
  | ⟨e, sz, .loopc id st l⟩, _, x => (⟨e, sz, .loop id st (Pat.encL l x).1⟩, (Pat.encL l x).2)
  | ⟨e, sz, .map k v⟩, _, x => (⟨e, sz, .map k v x.1⟩, x.2)
  | ⟨e, sz, .siter⟩, _, x => (⟨e, sz, .siter x.1 x.2.1⟩, x.2.2)
  | ⟨e, sz, .cells l⟩, _, x => (⟨e, sz, .cells (Pat.encL l x).1⟩, (Pat.encL l x).2)
  | ⟨e, sz, .list t⟩, _, x => (⟨e, sz, .list t x.1⟩, x.2)

def RC.loopOf : RC → Option (Nat × Nat × List AV) | .loop id st l => some (id, st, l) | _ => none
theorem loopOf_ok {c : RC} {x} (h : c.loopOf = some x) : c = .loop x.1 x.2.1 x.2.2 := by
  unfold RC.loopOf at h
  split at h <;> cases h; rfl
def RC.siterOf : RC → Option (ByteArray × Nat) | .siter s p => some (s, p) | _ => none
theorem siterOf_ok {c : RC} {x} (h : c.siterOf = some x) : c = .siter x.1 x.2 := by
  unfold RC.siterOf at h
  split at h <;> cases h; rfl
def RC.mapOf (k v : Ty) : RC → Option (List (El k × El v)) | .map k' v' xs => if h : k' = k ∧ v' = v then some (h.1 ▸ h.2 ▸ xs) else none | _ => none
theorem mapOf_ok {k v : Ty} {c : RC} {x} (h : c.mapOf k v = some x) : c = .map k v x := by
  unfold RC.mapOf at h
  split at h
  · split at h
    · rename_i e
      obtain ⟨rfl, rfl⟩ := e
      cases h; rfl
    · cases h
  · cases h

def RPat.dec : (r : RPat) → Row → {T : Type} → T → Option (r.tele T)
  | ⟨e, sz, .loop id l⟩, ⟨e', sz', c⟩, _, x => match c.loopOf with
    | some y => if e' = e ∧ sz' = sz ∧ y.1 = id then (match Pat.decL l y.2.2 x with
      | some z => some (y.2.1, z)
      | none => none) else none
    | none => none
  | ⟨e, sz, .loopc id st l⟩, ⟨e', sz', c⟩, _, x => match c.loopOf with
    | some y => if e' = e ∧ sz' = sz ∧ y.1 = id ∧ y.2.1 = st then Pat.decL l y.2.2 x else none
    | none => none
  | ⟨e, sz, .map k v⟩, ⟨e', sz', c⟩, _, x => match c.mapOf k v with
    | some y => if e' = e ∧ sz' = sz then some (y, x) else none
    | none => none
  | ⟨e, sz, .siter⟩, ⟨e', sz', c⟩, _, x => match c.siterOf with
    | some y => if e' = e ∧ sz' = sz then some (y.1, y.2, x) else none
    | none => none
  | ⟨e, sz, .cells l⟩, ⟨e', sz', .cells vs⟩, _, x => if e' = e ∧ sz' = sz then Pat.decL l vs x else none
  | ⟨e, sz, .list t⟩, ⟨e', sz', .list t' xs⟩, _, x => if e' = e ∧ sz' = sz then (if h : t' = t then some ((h ▸ xs : List (El t)), x) else none) else none
  | ⟨_, _, .cells _⟩, _, _, _ => none
  | ⟨_, _, .list _⟩, _, _, _ => none

theorem ite_some {α : Type} {c : Prop} [Decidable c] {a : Option α} {r : α} (h : (if c then a else none) = some r) : c ∧ a = some r := by
  by_cases hc : c
  · rw [if_pos hc] at h; exact ⟨hc, h⟩
  · rw [if_neg hc] at h; cases h

theorem rdec_ok (r : RPat) (v : Row) {T : Type} (x : T) (y : r.tele T) (h : r.dec v x = some y) : r.enc y = (v, x) := by
  obtain ⟨e, sz, c⟩ := r
  obtain ⟨e', sz', c'⟩ := v
  cases c with
  | cells pl =>
    cases c' with
    | cells vl =>
      obtain ⟨he, h⟩ := ite_some (α := Pat.teleL pl T) (r := y) h
      obtain ⟨rfl, rfl⟩ := he
      have := decL_ok _ _ x y h
      simp only [RPat.enc, this]
    | _ => cases h
  | list t0 =>
    cases c' with
    | list t1 xs =>
      obtain ⟨he, h⟩ := ite_some (α := List (El t0) × T) (r := y) h
      obtain ⟨rfl, rfl⟩ := he
      by_cases ht : t1 = t0
      · subst ht
        rw [dif_pos rfl] at h
        cases h; rfl
      · rw [dif_neg ht] at h; cases h
    | _ => cases h
  | loop id l =>
    simp only [RPat.dec] at h
    split at h
    · rename_i z hz
      split at h
      · rename_i he
        obtain ⟨rfl, rfl, rfl⟩ := he
        split at h
        · rename_i q hq
          cases h
          have := decL_ok _ _ x q hq
          simp only [RPat.enc, this, loopOf_ok hz]
        · cases h
      · cases h
    · cases h
  | loopc id st l =>
    simp only [RPat.dec] at h
    split at h
    · rename_i z hz
      obtain ⟨he, h⟩ := ite_some (α := Pat.teleL l T) (r := y) h
      obtain ⟨rfl, rfl, rfl, rfl⟩ := he
      have := decL_ok _ _ x y h
      simp only [RPat.enc, this, loopOf_ok hz]
    · cases h
  | map k v =>
    simp only [RPat.dec] at h
    split at h
    · rename_i z hz
      split at h
      · rename_i he
        obtain ⟨rfl, rfl⟩ := he
        cases h
        simp only [RPat.enc, mapOf_ok hz]
      · cases h
    · cases h
  | siter =>
    simp only [RPat.dec] at h
    split at h
    · rename_i z hz
      split at h
      · rename_i he
        obtain ⟨rfl, rfl⟩ := he
        cases h
        simp only [RPat.enc, siterOf_ok hz]
      · cases h
    · cases h

def MPat.tele : List (Nat × RPat) → Type → Type
  | [], T => T
  | (_, r) :: l, T => r.tele (MPat.tele l T)

def MPat.enc : (l : List (Nat × RPat)) → {T : Type} → MPat.tele l T → Rows × T
  | [], _, x => ([], x)
  | (k, r) :: l, _, x => ((k, (r.enc x).1) :: (MPat.enc l (r.enc x).2).1, (MPat.enc l (r.enc x).2).2)

def MPat.dec : (l : List (Nat × RPat)) → Rows → {T : Type} → T → Option (MPat.tele l T)
  | [], [], _, x => some x
  | (k, r) :: l, (k', v) :: vs, _, x => if k' = k then (match MPat.dec l vs x with
    | some y => r.dec v y
    | none => none) else none
  | _, _, _, _ => none

theorem mdec_ok : ∀ (l : List (Nat × RPat)) (m : Rows) {T : Type} (x : T) (y : MPat.tele l T), MPat.dec l m x = some y → MPat.enc l y = (m, x)
  | [], m, T, x, y, h => by
    cases m <;> simp only [MPat.dec] at h <;> try contradiction
    cases h; rfl
  | (k, r) :: l, [], T, x, y, h => by simp [MPat.dec] at h
  | (k, r) :: l, (k', v) :: vs, T, x, y, h => by
    simp only [MPat.dec] at h
    split at h
    · rename_i e
      subst e
      split at h
      · rename_i z hz
        have h1 := mdec_ok l vs x z hz
        have h2 := rdec_ok r v z y h
        simp only [MPat.enc, h2, h1]
      · cases h
    · cases h

theorem menc_len : ∀ (l : List (Nat × RPat)) {T : Type} (x : MPat.tele l T), (MPat.enc l x).1.length = l.length
  | [], T, x => rfl
  | (k, r) :: l, T, x => by simp only [MPat.enc, List.length_cons, menc_len l]

/-- Temporaries: each with how many dead ones stand ahead of it. -/
def TPat.tele : List (Nat × Pat) → Type → Type
  | [], T => T
  | (_, p) :: l, T => p.tele (TPat.tele l T)

def deads : Nat → List AV → List AV
  | 0, l => l
  | n + 1, l => .dead :: deads n l

def TPat.enc : (l : List (Nat × Pat)) → (tail : Nat) → {T : Type} → TPat.tele l T → List AV × T
  | [], n, _, x => (deads n [], x)
  | (g, p) :: l, n, _, x => (deads g ((p.enc x).1 :: (TPat.enc l n (p.enc x).2).1), (TPat.enc l n (p.enc x).2).2)

def undead : Nat → List AV → Option (List AV)
  | 0, l => some l
  | n + 1, .dead :: l => undead n l
  | _, _ => none

theorem undead_ok : ∀ (n : Nat) (l r : List AV), undead n l = some r → deads n r = l
  | 0, l, r, h => by cases h; rfl
  | n + 1, [], r, h => by cases h
  | n + 1, x :: l, r, h => by
    cases x <;> simp only [undead] at h <;> try contradiction
    simp only [deads, undead_ok n l r h]

def TPat.dec : (l : List (Nat × Pat)) → (tail : Nat) → List AV → {T : Type} → T → Option (TPat.tele l T)
  | [], n, vs, _, x => match undead n vs with
    | some [] => some x
    | _ => none
  | (g, p) :: l, n, vs, _, x => match undead g vs with
    | some (v :: r) => (match TPat.dec l n r x with
      | some y => p.dec v y
      | none => none)
    | _ => none

theorem tdec_ok : ∀ (l : List (Nat × Pat)) (n : Nat) (vs : List AV) {T : Type} (x : T) (y : TPat.tele l T), TPat.dec l n vs x = some y → TPat.enc l n y = (vs, x)
  | [], n, vs, T, x, y, h => by
    simp only [TPat.dec] at h
    split at h
    · rename_i hu
      cases h
      simp only [TPat.enc, undead_ok _ _ _ hu]
    · cases h
  | (g, p) :: l, n, vs, T, x, y, h => by
    simp only [TPat.dec] at h
    split at h
    · rename_i v r hu
      split at h
      · rename_i z hz
        have h1 := tdec_ok l n r x z hz
        have h2 := pdec_ok p v z y h
        simp only [TPat.enc, h2, h1, undead_ok _ _ _ hu]
      · cases h
    · cases h

structure SPat where
  t : List (Nat × Pat)
  tail : Nat
  m : List (Nat × RPat)
  nx : Nat

def SPat.X (p : SPat) : Type := TPat.tele p.t (MPat.tele p.m Unit)

def SPat.enc (p : SPat) (x : p.X) : St := ⟨(TPat.enc p.t p.tail x).1, (MPat.enc p.m (TPat.enc p.t p.tail x).2).1, p.nx⟩

def SPat.dec (p : SPat) (st : St) : Option p.X := if st.nx = p.nx then (match MPat.dec p.m st.m () with
  | some y => TPat.dec p.t p.tail st.t y
  | none => none) else none

theorem sdec_ok {p : SPat} {st : St} {x : p.X} (h : p.dec st = some x) : p.enc x = st := by
  unfold SPat.dec at h
  split at h
  · rename_i hn
    split at h
    · rename_i y hy
      have h1 := mdec_ok p.m st.m () y hy
      have h2 := tdec_ok p.t p.tail st.t y x h
      simp only [SPat.enc, h2, h1, ← hn]
    · cases h
  · cases h

/-! ### Trees -/
inductive Tree (α : Type) : Type 1 where
  | ret (a : α)
  | fail
  | br (c : Bool) (x y : Tree α)
  | any (x y : Tree α)
  | call {Y : Type} (o : Option Y) (k : Y → Tree α)
  | alt {A B : Type} (s : A ⊕ B) (x : A → Tree α) (y : B → Tree α)

noncomputable def Tree.run {α R : Type} : Tree α → (α → Option R) → Option R
  | .ret a, k => k a
  | .fail, _ => none
  | .br c x y, k => match c with
    | true => x.run k
    | false => y.run k
  | .any x y, k => anyR (x.run k) (y.run k)
  | .call o f, k => o.bind fun y => (f y).run k
  | .alt s f g, k => match s with
    | .inl a => (f a).run k
    | .inr b => (g b).run k

theorem anyR_self {R : Type} (x : Option R) : anyR x x = x := by unfold anyR; rw [if_pos rfl]

theorem Tree.run_mono {α R R' : Type} {r : R} {r' : Option R'} {k : α → Option R} {k' : α → Option R'} (hk : ∀ a, k a = some r → k' a = r') : ∀ (t : Tree α), t.run k = some r → t.run k' = r'
  | .ret a, h => hk a h
  | .fail, h => by cases h
  | .br c x y, h => by
    cases c
    · exact Tree.run_mono hk y h
    · exact Tree.run_mono hk x h
  | .any x y, h => by
    obtain ⟨h1, h2⟩ := anyR_some h
    simp only [Tree.run]
    rw [Tree.run_mono hk x h1, Tree.run_mono hk y h2, anyR_self]
  | .call o f, h => by
    cases o with
    | none => cases h
    | some y => exact Tree.run_mono hk (f y) h
  | .alt s f g, h => by
    cases s with
    | inl a => exact Tree.run_mono hk (f a) h
    | inr b => exact Tree.run_mono hk (g b) h

/-- What goes out of a part. -/
inductive Outs (X : Type) : Type 1 where
  | one (e : Exit) (p : SPat) (Y : Type) (out : X → Y → p.X)
  | or (e : Exit) (p : SPat) (Y : Type) (out : X → Y → p.X) (r : Outs X)

def Outs.Y {X : Type} : Outs X → Type
  | .one _ _ Y _ => Y
  | .or _ _ Y _ r => Y ⊕ r.Y

def Outs.go {X : Type} (x : X) : (o : Outs X) → (R : Type) → o.Y → (Exit → St → Option R) → Option R
  | .one e p _ out, R, y, k => k e (p.enc (out x y))
  | .or e p _ out r, R, y, k => match y with
    | .inl y => k e (p.enc (out x y))
    | .inr y => r.go x R y k

def isNormal : Exit → Bool
  | .normal => true
  | _ => false

def Outs.away {X : Type} : Outs X → Bool
  | .one e _ _ _ => !isNormal e
  | .or e _ _ _ r => !isNormal e && r.away

theorem Outs.away_ok {X R : Type} {x : X} {k k' : Exit → St → Option R} (hk : ∀ e st, isNormal e = false → k' e st = k e st) : ∀ (o : Outs X), o.away = true → ∀ y, o.go x R y k' = o.go x R y k
  | .one e p _ _, h, y => hk _ _ (by simpa [Outs.away] using h)
  | .or e p _ _ r, h, y => by
    simp only [Outs.away, Bool.and_eq_true, Bool.not_eq_true'] at h
    cases y with
    | inl y => exact hk _ _ h.1
    | inr y => exact Outs.away_ok hk r h.2 y

/-! ### Tables -/
structure TE where
  i : Nat
  pin : SPat
  outs : Outs pin.X
  F : pin.X → Option outs.Y

def LOf : List TE → Nat → St → Option LR
  | [], _, _ => none
  | e :: l, i, st => if e.i = i then (match e.pin.dec st with
    | some x => some ⟨e.outs.Y, e.F x, e.outs.go x⟩
    | none => LOf l i st) else LOf l i st

/-- What an entry says of a part is so. -/
def EOK (A : Ann) (e : TE) (p : Code) : Prop := ∀ x y, e.F x = some y →
  if e.i % 2 = 1 then ∀ (R : Type) (k : Exit → St → Option R), aexec A p (e.pin.enc x) (kn A e.i k) = e.outs.go x R y k
  else ∃ n, ∀ (R : Type) (k : Exit → St → Option R), iter n (fun s k => aexec A p s (kn A e.i k)) (e.pin.enc x) k = e.outs.go x R y k

def AllE (A : Ann) (code : Code) : List TE → Prop
  | [] => True
  | e :: l => EOK A e ((findCut e.i code).getD .skip) ∧ AllE A code l

theorem LOf_mem {i : Nat} {st : St} {r : LR} : ∀ {l : List TE}, LOf l i st = some r → ∃ e ∈ l, e.i = i ∧ ∃ x, e.pin.enc x = st ∧ r = ⟨e.outs.Y, e.F x, e.outs.go x⟩
  | [], h => by cases h
  | e :: l, h => by
    simp only [LOf] at h
    split at h
    · rename_i hi
      split at h
      · rename_i x hx
        cases h
        exact ⟨e, by simp, hi, x, sdec_ok hx, rfl⟩
      · obtain ⟨e', h1, h2⟩ := LOf_mem h
        exact ⟨e', List.mem_cons_of_mem _ h1, h2⟩
    · obtain ⟨e', h1, h2⟩ := LOf_mem h
      exact ⟨e', List.mem_cons_of_mem _ h1, h2⟩

theorem AllE_mem {A : Ann} {code : Code} : ∀ {l : List TE}, AllE A code l → ∀ e ∈ l, EOK A e ((findCut e.i code).getD .skip)
  | [], _, e, he => by cases he
  | e' :: l, h, e, he => by
    rcases List.mem_cons.1 he with rfl | he
    · exact h.1
    · exact AllE_mem h.2 e he

def nodupB : List Nat → Bool
  | [] => true
  | x :: l => !l.contains x && nodupB l

theorem nodupB_ok : ∀ {l : List Nat}, nodupB l = true → l.Nodup
  | [], _ => List.nodup_nil
  | x :: l, h => by
    simp only [nodupB, Bool.and_eq_true, Bool.not_eq_true', List.contains_eq_mem, decide_eq_false_iff_not] at h
    exact List.nodup_cons.2 ⟨h.1, nodupB_ok h.2⟩

theorem tok_of {A : Ann} {code : Code} {l : List TE} (hL : A.L = LOf l) (hn : nodupB ((cuts code).filter fun i => (tabAt A.tab i).isSome) = true) (h : AllE A code l) : TOK A code := by
  refine ⟨nodupB_ok hn, fun i p hi hp st r y hr hy => ?_⟩
  rw [hL] at hr
  obtain ⟨e, he, rfl, x, hx, rfl⟩ := LOf_mem hr
  have := AllE_mem h e he x y hy
  rw [hp] at this
  subst hx
  exact this

/-- A part with one way in. -/
theorem join_ok {A : Ann} {p : Code} {i : Nat} {pin : SPat} {outs : Outs pin.X} {t : pin.X → Tree outs.Y} (hi : i % 2 = 1)
    (h : ∀ x (R : Type) (k : Exit → St → Option R), aexec A p (pin.enc x) (kn A i k) = (t x).run fun y => outs.go x R y k) : EOK A ⟨i, pin, outs, fun x => (t x).run some⟩ p := by
  intro x y hy
  rw [if_pos hi]
  intro R k
  rw [h x R k]
  exact Tree.run_mono (fun a ha => by cases ha; rfl) (t x) hy

/-- Rounds. -/
noncomputable def loopN {X Y : Type} (s : X → Tree (X ⊕ Y)) : Nat → X → Option Y
  | 0, _ => none
  | n + 1, x => (s x).run fun
    | .inl x' => loopN s n x'
    | .inr y => some y

theorem loop_iter {A : Ann} {p : Code} {i : Nat} {pin : SPat} {outs : Outs pin.X} {V : Type} {s : pin.X → V → Tree (V ⊕ outs.Y)} {mk : pin.X → V → pin.X} (ha : outs.away = true)
    (h : ∀ x v (R : Type) (k : Exit → St → Option R), aexec A p (pin.enc (mk x v)) (kn A i k) = (s x v).run fun
      | .inl v' => k .normal (pin.enc (mk x v'))
      | .inr y => outs.go x R y k) (R : Type) (k : Exit → St → Option R) (x : pin.X) :
    ∀ (n : Nat) (v : V) (y : outs.Y), loopN (s x) n v = some y → iter n (fun s k => aexec A p s (kn A i k)) (pin.enc (mk x v)) k = outs.go x R y k
  | 0, v, y, hy => by cases hy
  | n + 1, v, y, hy => by
    simp only [iter]
    rw [h x v R]
    refine Tree.run_mono (fun z hz => ?_) (s x v) hy
    cases z with
    | inl x' => exact loop_iter ha h R k x n x' y hz
    | inr y' =>
      cases hz
      exact outs.away_ok (fun e st he => by cases e <;> first | rfl | cases he) ha _

theorem loop_ok {A : Ann} {p : Code} {i : Nat} {pin : SPat} {outs : Outs pin.X} {V : Type} {s : pin.X → V → Tree (V ⊕ outs.Y)} {mk : pin.X → V → pin.X} {var : pin.X → V} (N : Nat) (hi : i % 2 = 0) (ha : outs.away = true)
    (hm : ∀ x, mk x (var x) = x)
    (h : ∀ x v (R : Type) (k : Exit → St → Option R), aexec A p (pin.enc (mk x v)) (kn A i k) = (s x v).run fun
      | .inl v' => k .normal (pin.enc (mk x v'))
      | .inr y => outs.go x R y k) : EOK A ⟨i, pin, outs, fun x => loopN (s x) N (var x)⟩ p := by
  intro x y hy
  rw [if_neg (by simp only; omega)]
  refine ⟨N, fun R k => ?_⟩
  have := loop_iter ha h R k x N (var x) y hy
  rw [hm] at this
  exact this

/-- As join_ok; the state ahead spelt out, so that the kernel need not read it off again and again. -/
theorem join_lit {A : Ann} {p : Code} {i : Nat} {pin : SPat} {outs : Outs pin.X} {t : pin.X → Tree outs.Y} (hi : i % 2 = 1) (lit : pin.X → St) (hl : ∀ x, pin.enc x = lit x)
    (h : ∀ x (R : Type) (k : Exit → St → Option R), aexec A p (lit x) (kn A i k) = (t x).run fun y => outs.go x R y k) : EOK A ⟨i, pin, outs, fun x => (t x).run some⟩ p :=
  join_ok hi fun x R k => by rw [hl]; exact h x R k

theorem loop_lit {A : Ann} {p : Code} {i : Nat} {pin : SPat} {outs : Outs pin.X} {V : Type} {s : pin.X → V → Tree (V ⊕ outs.Y)} {mk : pin.X → V → pin.X} {var : pin.X → V} (N : Nat) (hi : i % 2 = 0) (ha : outs.away = true)
    (hm : ∀ x, mk x (var x) = x) (lit : pin.X → V → St) (hl : ∀ x v, pin.enc (mk x v) = lit x v)
    (h : ∀ x v (R : Type) (k : Exit → St → Option R), aexec A p (lit x v) (kn A i k) = (s x v).run fun
      | .inl v' => k .normal (pin.enc (mk x v'))
      | .inr y => outs.go x R y k) : EOK A ⟨i, pin, outs, fun x => loopN (s x) N (var x)⟩ p :=
  loop_ok N hi ha hm fun x v R k => by rw [hl]; exact h x v R k

/-! ### Functions -/
theorem tok_fn {A : Ann} {fn : Func} (h : TOK A (fn.body.getD .skip) ∧ LOK A (fn.body.getD .skip)) : ∀ c, fn.body = some c → TOK A c ∧ LOK A c := by
  intro c hc
  rw [hc] at h
  exact h

/-- No part of it is told by a table. -/
theorem tok_away {A : Ann} {code : Code} (h : ((cuts code).all fun i => !(tabAt A.tab i).isSome) = true) : TOK A code := by
  have key : ∀ i ∈ cuts code, (tabAt A.tab i).isSome = false := by simpa using h
  refine ⟨?_, fun i p hi hp => ?_⟩
  · rw [List.filter_eq_nil_iff.2 (fun i hi => by simp [key i hi])]; exact List.nodup_nil
  · have := key i (findCut_mem hp)
    rw [this] at hi
    cases hi

/-- What comes out of a function, in one of some shapes; as a panic. -/
inductive FOuts (X : Type) : Type 1 where
  | one (pn : Bool) (p : Pat) (r : List (Nat × RPat)) (Y : Type) (out : X → Y → Pat.tele p (MPat.tele r Unit))
  | or (pn : Bool) (p : Pat) (r : List (Nat × RPat)) (Y : Type) (out : X → Y → Pat.tele p (MPat.tele r Unit)) (l : FOuts X)

def FOuts.Y {X : Type} : FOuts X → Type
  | .one _ _ _ Y _ => Y
  | .or _ _ _ Y _ l => Y ⊕ l.Y

def outV (pout : Pat) (rout : List (Nat × RPat)) (y : Pat.tele pout (MPat.tele rout Unit)) : AV × Rows := ((pout.enc y).1, (MPat.enc rout (pout.enc y).2).1)

def FOuts.val {X : Type} (x : X) : (o : FOuts X) → o.Y → Bool × AV × Rows
  | .one pn p r _ out, y => (pn, (outV p r (out x y)).1, (outV p r (out x y)).2)
  | .or pn p r _ out l, y => match y with
    | .inl y => (pn, (outV p r (out x y)).1, (outV p r (out x y)).2)
    | .inr y => l.val x y

def FOuts.go {X : Type} (x : X) : (o : FOuts X) → (R : Type) → o.Y → (Bool → AV → Rows → Option R) → Option R
  | .one pn p r _ out, R, y, k => k pn (outV p r (out x y)).1 (outV p r (out x y)).2
  | .or pn p r _ out l, R, y, k => match y with
    | .inl y => k pn (outV p r (out x y)).1 (outV p r (out x y)).2
    | .inr y => l.go x R y k

theorem FOuts.go_val {X : Type} {x : X} : ∀ (o : FOuts X) (R : Type) (y : o.Y) (k : Bool → AV → Rows → Option R), o.go x R y k = k (o.val x y).1 (o.val x y).2.1 (o.val x y).2.2
  | .one _ _ _ _ _, R, y, k => rfl
  | .or _ _ _ _ _ l, R, y, k => by
    cases y with
    | inl y => rfl
    | inr y => exact FOuts.go_val l R y k

structure FE where
  f : FuncId
  mm : Nat
  pin : List Pat
  rin : List (Nat × RPat)
  outs : FOuts (Pat.teleL pin (MPat.tele rin Unit))
  F : Pat.teleL pin (MPat.tele rin Unit) → Option outs.Y
  /-- rows that it leaves as they are -/
  keep : List Nat

def FE.avs (e : FE) (x : Pat.teleL e.pin (MPat.tele e.rin Unit)) : List AV := (Pat.encL e.pin x).1
def FE.rows (e : FE) (x : Pat.teleL e.pin (MPat.tele e.rin Unit)) : Rows := (MPat.enc e.rin (Pat.encL e.pin x).2).1
def dOf : List FE → FuncId → List AV → Rows → Option CallR
  | [], _, _, _ => none
  | e :: l, f, avs, m => if e.f = f then (match MPat.dec e.rin m () with
    | some y => (match Pat.decL e.pin avs y with
      | some x => some ⟨e.mm, e.keep, _, e.F x, e.outs.val x, e.outs.go x, e.outs.go_val⟩
      | none => dOf l f avs m)
    | none => dOf l f avs m) else dOf l f avs m

def FEok (P : Program) (e : FE) : Prop := (fnB e.f = true → Enters P e.f) ∧ ∀ x y, e.F x = some y → CallOK P e.f e.mm (e.avs x) (e.rows x) (e.outs.val x y).1 (e.outs.val x y).2.1 (e.outs.val x y).2.2 ∧ KeptL e.keep (e.outs.val x y).2.2 (e.rows x)

def AllF (P : Program) : List FE → Prop
  | [] => True
  | e :: l => FEok P e ∧ AllF P l

theorem dok_of {P : Program} {md : FuncId → List Bool} : ∀ {l : List FE}, AllF P l → DOK ⟨P, dOf l, md⟩
  | [], _ => fun f avs m c h => by cases h
  | e :: l, hl => fun f avs m c h => by
    have ih := dok_of (md := md) hl.2 f avs m c
    simp only [dOf] at h ih
    split at h
    · rename_i hf
      subst hf
      split at h
      · rename_i y hy
        split at h
        · rename_i x hx
          cases h
          refine ⟨hl.1.1, fun z hz => ?_⟩
          have h1 := decL_ok _ _ _ _ hx
          have h2 := mdec_ok _ _ _ _ hy
          have := hl.1.2 x z hz
          simp only [FE.avs, FE.rows, h1, h2] at this
          exact this
        · exact ih h
      · exact ih h
    · exact ih h

/-- A function: what it comes to. -/
theorem fn_ok {A : Ann} {f : FuncId} {fn : Func} {pin : List Pat} {rin : List (Nat × RPat)} {outs : FOuts (Pat.teleL pin (MPat.tele rin Unit))} {t : Pat.teleL pin (MPat.tele rin Unit) → Tree outs.Y}
    (hD : DOK A.cx) (hm : A.cx.P.follows .mixedOrders = true) (hf : A.cx.P.funcs[f]? = some fn) (he : (entersB fn && fnB f) = true) (hT : ∀ c, fn.body = some c → TOK A c ∧ LOK A c) (fz : Bool)
    (h : ∀ x, acall A fz fn (Pat.encL pin x).1 (MPat.enc rin (Pat.encL pin x).2).1 = (t x).run fun y => outs.go x _ y fun p v m => some (p, v, m)) : FEok A.cx.P ⟨f, A.mm, pin, rin, outs, fun x => (t x).run some, []⟩ := by
  simp only [Bool.and_eq_true] at he
  refine ⟨fun _ => enters_run hf he.1, fun x y hy => ?_⟩
  have hx : acall A fz fn (Pat.encL pin x).1 (MPat.enc rin (Pat.encL pin x).2).1 = some (outs.val x y) :=
    (h x).trans (Tree.run_mono (fun a ha => by cases ha; rw [FOuts.go_val]) (t x) hy)
  exact ⟨acall_ok hD hm he.2 hf hT hx, trivial⟩

/-- As fn_ok; arguments and rows spelt out. -/
theorem fn_lit {A : Ann} {f : FuncId} {fn : Func} {pin : List Pat} {rin : List (Nat × RPat)} {outs : FOuts (Pat.teleL pin (MPat.tele rin Unit))} {t : Pat.teleL pin (MPat.tele rin Unit) → Tree outs.Y}
    (hD : DOK A.cx) (hm : A.cx.P.follows .mixedOrders = true) (hf : A.cx.P.funcs[f]? = some fn) (he : (entersB fn && fnB f) = true) (hT : ∀ c, fn.body = some c → TOK A c ∧ LOK A c) (fz : Bool)
    (la : Pat.teleL pin (MPat.tele rin Unit) → List AV) (lm : Pat.teleL pin (MPat.tele rin Unit) → Rows) (ha : ∀ x, (Pat.encL pin x).1 = la x) (hl : ∀ x, (MPat.enc rin (Pat.encL pin x).2).1 = lm x)
    (h : ∀ x, acall A fz fn (la x) (lm x) = (t x).run fun y => outs.go x _ y fun p v m => some (p, v, m)) : FEok A.cx.P ⟨f, A.mm, pin, rin, outs, fun x => (t x).run some, []⟩ :=
  fn_ok hD hm hf he hT fz fun x => by rw [ha, hl]; exact h x

/-- What it hands back leaves some rows as they are. -/
def FOuts.Kept {X : Type} (R : X → Rows) (ks : List Nat) : FOuts X → Prop
  | .one _ p r _ out => ∀ x y, KeptL ks (outV p r (out x y)).2 (R x)
  | .or _ p r _ out l => (∀ x y, KeptL ks (outV p r (out x y)).2 (R x)) ∧ l.Kept R ks

theorem FOuts.kept_val {X : Type} {R : X → Rows} {ks : List Nat} {x : X} : ∀ {o : FOuts X}, o.Kept R ks → ∀ y : o.Y, KeptL ks (o.val x y).2.2 (R x)
  | .one _ _ _ _ _, h, y => h x y
  | .or _ _ _ _ _ l, h, y => by
    cases y with
    | inl y => exact h.1 x y
    | inr y => exact FOuts.kept_val h.2 y

theorem keep_ok {P : Program} {f : FuncId} {mm : Nat} {pin : List Pat} {rin : List (Nat × RPat)} {outs : FOuts (Pat.teleL pin (MPat.tele rin Unit))} {F : Pat.teleL pin (MPat.tele rin Unit) → Option outs.Y} {ks : List Nat}
    (hk : outs.Kept (fun x => (MPat.enc rin (Pat.encL pin x).2).1) ks) (h : FEok P ⟨f, mm, pin, rin, outs, F, []⟩) : FEok P ⟨f, mm, pin, rin, outs, F, ks⟩ :=
  ⟨h.1, fun x y hy => ⟨(h.2 x y hy).1, FOuts.kept_val hk y⟩⟩

/-- Of a function that defers a closure which recovers: the part behind that. -/
def postOf (fn : Func) : Code := match splitD (fn.body.getD .skip) with
  | some (_, _, p) => p
  | none => .skip
def preOK (fn : Func) : Bool := match splitD (fn.body.getD .skip) with
  | some (pre, _, _) => pre.all noRange
  | none => false
def closOK (g : Func) : Bool := match g.body with
  | some (.seq _ rest) => noRange rest
  | _ => false

theorem lok_split {A : Ann} : ∀ {c D post : Code} {pre : List Code}, splitD c = some (pre, D, post) → LOK A c → LOK A post := by
  intro c
  induction c with
  | seq x y ihx ihy =>
    intro D post pre h hL
    simp only [splitD] at h
    split at h
    · cases h; exact hL.2
    · split at h
      · rename_i l d r hl
        cases h
        exact ihy hl hL.2
      · cases h
  | _ => intro D post pre h; simp [splitD] at h

theorem lok_post {A : Ann} {fn : Func} (h : LOK A (fn.body.getD .skip)) : LOK A (postOf fn) := by
  unfold postOf
  split
  · rename_i hs; exact lok_split hs h
  · trivial

theorem rfn_ok {A A' : Ann} {f : FuncId} {fn : Func} {pin : List Pat} {rin : List (Nat × RPat)} {outs : FOuts (Pat.teleL pin (MPat.tele rin Unit))} {t : Pat.teleL pin (MPat.tele rin Unit) → Tree outs.Y}
    (hD : DOK A.cx) (hcx : A'.cx = A.cx) (hm : A.cx.P.follows .mixedOrders = true) (hf : A.cx.P.funcs[f]? = some fn) (he : (entersB fn && fnB f) = true) {fc : FuncId} {g : Func} (hg : A.cx.P.funcs[fc]? = some g) (hge : entersB g = true)
    (hpre : preOK fn = true) (hgT : closOK g = true) (hT : TOK A' (postOf fn) ∧ LOK A' (postOf fn)) (keep : List Nat) (fz : Bool)
    (h : ∀ x, acallR A A' fc g keep fz fn (Pat.encL pin x).1 (MPat.enc rin (Pat.encL pin x).2).1 = (t x).run fun y => outs.go x _ y fun p v m => some (p, v, m)) : FEok A.cx.P ⟨f, A.mm, pin, rin, outs, fun x => (t x).run some, []⟩ := by
  simp only [Bool.and_eq_true] at he
  refine ⟨fun _ => enters_run hf he.1, fun x y hy => ?_⟩
  have hx : acallR A A' fc g keep fz fn (Pat.encL pin x).1 (MPat.enc rin (Pat.encL pin x).2).1 = some (outs.val x y) :=
    (h x).trans (Tree.run_mono (fun a ha => by cases ha; rw [FOuts.go_val]) (t x) hy)
  refine ⟨?_, trivial⟩
  refine acallR_ok hD hcx hm he.2 hf hg (enters_run hg hge) (fun c pre D post hc hs => ?_) (fun id ops rest hb => ?_) hx
  · unfold preOK at hpre
    unfold postOf at hT
    rw [hc] at hpre hT
    simp only [Option.getD_some, hs] at hpre hT
    exact ⟨hpre, hT⟩
  · unfold closOK at hgT
    rw [hb] at hgT
    exact hgT

/-- A round: what it comes to. -/
theorem round_ok {A : Ann} {f : FuncId} {pin : List Pat} {rin : List (Nat × RPat)} {outs : FOuts (Pat.teleL pin (MPat.tele rin Unit))} {t : Pat.teleL pin (MPat.tele rin Unit) → Tree outs.Y} {ps : Array Tmp} {assign body : Code}
    (hD : DOK A.cx) (hm : A.cx.P.follows .mixedOrders = true) (he : (!fnB f && A.inr) = true) (hLA : LA f = some (ps, assign, body)) (hTa : ((cuts assign).all fun i => !(tabAt A.tab i).isSome) = true) (hTb : TOK A body) (hL : (noRange assign && noRange body) = true)
    (h : ∀ x, around A f (Pat.encL pin x).1 (MPat.enc rin (Pat.encL pin x).2).1 = (t x).run fun y => outs.go x _ y fun p v m => some (p, v, m)) : FEok A.cx.P ⟨f, A.mm, pin, rin, outs, fun x => (t x).run some, []⟩ := by
  simp only [Bool.and_eq_true, Bool.not_eq_true'] at he hL
  refine ⟨fun hb => (by have : fnB f = true := hb; rw [he.1] at this; cases this), fun x y hy => ?_⟩
  have hx : around A f (Pat.encL pin x).1 (MPat.enc rin (Pat.encL pin x).2).1 = some (outs.val x y) :=
    (h x).trans (Tree.run_mono (fun a ha => by cases ha; rw [FOuts.go_val]) (t x) hy)
  refine ⟨?_, trivial⟩
  refine around_ok hD hm he.1 he.2 (fun ps' assign' body' h' => ?_) hx
  rw [hLA] at h'
  simp only [Option.some.injEq, Prod.mk.injEq] at h'
  obtain ⟨rfl, rfl, rfl⟩ := h'
  exact ⟨⟨tok_away hTa, lok_none hL.1⟩, hTb, lok_none hL.2⟩
/-- An empty slice that is handed in as nil is handed in as an empty row. -/
theorem call_nil {P : Program} {f : FuncId} {e : TypeId} {sz : Nat} {t : Ty} {l : List AV} {pn : Bool} {res : AV} {m' : Rows} (hz : csz t = sz) (h : CallOK P f 0 (.own 0 sz :: l) [(0, ⟨e, sz, .list t []⟩)] pn res m') : CallOK P f 0 (.nils e :: l) [] pn res m' := by
  intro w Im ρ vals hrs hv hu
  obtain ⟨v, vs, rfl, hv1, hvl⟩ := VRs_cons.1 hv
  obtain ⟨A, rfl⟩ := hv1
  have h0 : ρ 0 = .unborn := hu 0 (Nat.zero_le _)
  have hE : Ext ρ (upd ρ 0 .virt) := fun q => by
    by_cases e : 0 = q
    · subst e; exact .inr (.inr h0)
    · exact .inl (upd_other e)
  have hno : ∀ r g n q, upd ρ 0 .virt r ≠ .blk g n q := by
    intro r g n q e1
    by_cases e : 0 = r
    · subst e; rw [upd_same] at e1; cases e1
    · rw [upd_other e, hu r (Nat.zero_le _)] at e1; cases e1
  have hrs' : RS w Im (upd ρ 0 .virt) [(0, ⟨e, sz, .list t []⟩)] := by
    refine ⟨fun r x hx => ?_, fun r hr => ?_, fun r r' g n q n' q' e1 => absurd e1 (hno _ _ _ _), fun r g n q e1 => absurd e1 (hno _ _ _ _), hrs.imlt, hrs.gd⟩
    · by_cases e1 : 0 = r
      · subst e1
        simp only [look, if_true, Option.some.injEq] at hx
        subst hx
        have : 0 < csz t := csz_pos t
        refine ⟨by show 0 < sz; omega, hz, ?_⟩
        rw [upd_same]
        exact ⟨rfl, rfl⟩
      · simp only [look, if_neg e1] at hx
        cases hx
    · by_cases e1 : 0 = r
      · subst e1
        simp [look] at hr
      · rw [upd_other e1]; exact .inr (hu r (Nat.zero_le _))
  have hv' : VRs w Im (upd ρ 0 .virt) (.own 0 sz :: l) (.slice A 0 0 :: vs) := by
    refine VRs_cons.2 ⟨_, _, rfl, ?_, VRs_mono (fun _ _ => rfl) (fun _ h => h) hE _ _ hvl⟩
    simp only [VR, upd_same]
    exact ⟨A, rfl⟩
  refine (h w Im (upd ρ 0 .virt) _ hrs' hv' (fun q hq => ?_)).mono ?_
  · have : 1 ≤ q := hq
    rw [upd_other (by omega)]
    exact hu q (Nat.zero_le _)
  · rintro e' w' ⟨v, Im', ρ', h1, h2, h3, h4, h5, h6, h7, h8⟩
    have hob : ∀ b, ¬ ownB (upd ρ 0 .virt) b := fun b ⟨r, n, q, e1⟩ => hno _ _ _ _ e1
    exact ⟨v, Im', ρ', h1, h2, h3, ⟨h4.os, h4.tape, h4.output, h4.size, fun b hb _ => h4.blk b hb (hob b)⟩, h5, fun b hb => (h6 b hb).elim .inl (fun x => x.elim (fun y => .inr (.inl y)) (fun y => absurd y (hob b))), fun b hb => (h7 b hb).elim .inl (fun y => absurd y (hob b)), fun q hq => absurd hq (Nat.not_lt_zero _)⟩

theorem call_nilE {P : Program} (e : TypeId) (sz : Nat) (t : Ty) {f f2 : FuncId} {mm mm2 : Nat} {avs avs2 : List AV} {rows rows2 m' m2 : Rows} {pn pn2 : Bool} {res res2 : AV} (h : CallOK P f mm avs rows pn res m') (hf : f2 = f) (hm : mm = 0) (hm2 : mm2 = 0) (ha : avs = .own 0 sz :: avs2.tail) (ha2 : avs2 = .nils e :: avs2.tail)
    (hr : rows = [(0, ⟨e, sz, .list t []⟩)]) (hr2 : rows2 = []) (hz : csz t = sz) (hp : pn2 = pn) (hres : res2 = res) (hm' : m2 = m') : CallOK P f2 mm2 avs2 rows2 pn2 res2 m2 := by
  subst hf; subst hm; subst hm2; subst hr; subst hr2; subst hp; subst hres; subst hm'
  rw [ha] at h
  rw [ha2]
  exact call_nil hz h

end Go.Proofs.YtfogafinohfpfaaGreatDoorV
