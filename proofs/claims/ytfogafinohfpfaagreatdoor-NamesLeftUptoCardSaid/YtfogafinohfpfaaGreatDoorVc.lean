/- What abstract values stand for in a world; that it stays so while other memory is written. -/
import Derived.Test.YtfogafinohfpfaaGreatDoorVa
import Derived.Below
namespace Go.Proofs.YtfogafinohfpfaaGreatDoorV
open Go.RowKit

/-- Where a row lies. -/
inductive Loc where
  | unborn
  | gone
  | virt
  | blk (g n cap : Nat)
  deriving DecidableEq

/-- Texts, out of blocks that stay as they are. -/
def TxR (w : World) (Im : Nat → Prop) (p : List ByteArray) (v : Value) : Prop :=
  ∃ A cap, [v] = [.slice A p.length cap] ∧ p.length ≤ cap ∧
      (p ≠ [] → ∃ a, A = some a ∧ Im a.block ∧ a.spot = none ∧
        ∀ i (h : i < p.length), ∃ us, us = [Value.string p[i]] ∧ ∀ j u, us[j]? = some u → w.cell? (a.add (i * 1 + j)) = some u)
/-- A tree's cells. -/
inductive NR (w : World) (Im : Nat → Prop) : Node → List Value → Prop
  | mk (k : Int) (s : ByteArray) (n a : Int) (l : List Node) (p : List ByteArray) (A : Option Addr) (cap : Nat) (ad : Addr) (us : Nat → List Value) (pv : Value)
      (h1 : l.length ≤ cap) (h2 : l ≠ [] → A = some ad ∧ Im ad.block ∧ ad.spot = none)
      (h3 : ∀ i, i < l.length → ∀ (j : Nat) u, (us i)[j]? = some u → w.cell? (ad.add (i * 6 + j)) = some u)
      (h4 : ∀ i (h : i < l.length), NR w Im l[i] (us i)) (h5 : TxR w Im p pv) :
      NR w Im (.mk k s n a l p) [.int .i64 k, .string s, .int .u32 n, .int .i64 a, .slice A l.length cap, pv]

/-- Cells read as a value, out of blocks that stay as they are. -/
def IR (w : World) (Im : Nat → Prop) : (t : Ty) → El t → List Value → Prop
  | .int k, n, cs => cs = [.int k n]
  | .bool, b, cs => cs = [.bool b]
  | .str, s, cs => cs = [.string s]
  | .list t, xs, cs => ∃ A cap, cs = [.slice A xs.length cap] ∧ xs.length ≤ cap ∧
      (xs ≠ [] → ∃ a, A = some a ∧ Im a.block ∧ a.spot = none ∧
        ∀ i (h : i < xs.length), ∃ us, IR w Im t xs[i] us ∧ ∀ j u, us[j]? = some u → w.cell? (a.add (i * csz t + j)) = some u)
  | .prod a b, p, cs => ∃ c1 c2, cs = c1 ++ c2 ∧ IR w Im a p.1 c1 ∧ IR w Im b p.2 c2
  | .node, x, cs => NR w Im x cs

theorem NR_iff {w : World} {Im : Nat → Prop} {x : Node} {cs : List Value} : NR w Im x cs ↔ ∃ v5 v6, cs = [.int .i64 x.k, .string x.s, .int .u32 x.n, .int .i64 x.a, v5, v6] ∧ IR w Im (.list .node) x.l [v5] ∧ IR w Im (.list .str) x.p [v6] := by
  constructor
  · intro h
    cases h with
    | mk k s n a l p A cap ad us pv h1 h2 h3 h4 h5 =>
      refine ⟨_, _, rfl, ⟨A, cap, rfl, h1, fun hne => ?_⟩, h5⟩
      obtain ⟨e1, e2, e3⟩ := h2 hne
      exact ⟨ad, e1, e2, e3, fun i hi => ⟨us i, h4 i hi, h3 i hi⟩⟩
  · rintro ⟨v5, v6, rfl, ⟨A, cap, e, hl, h⟩, h6⟩
    obtain ⟨k, s, n, a, l, p⟩ := x
    simp only [List.cons.injEq, and_true] at e
    subst e
    by_cases hne : l = []
    · subst hne
      exact NR.mk k s n a [] p A cap ⟨0, 0, none⟩ (fun _ => []) v6 hl (fun hh => absurd rfl hh) (fun i hi => absurd hi (Nat.not_lt_zero _)) (fun i hi => absurd hi (Nat.not_lt_zero _)) h6
    · obtain ⟨ad, e1, e2, e3, hc⟩ := h hne
      refine NR.mk k s n a l p A cap ad (fun i => if hi : i < l.length then Classical.choose (hc i hi) else []) v6 hl (fun _ => ⟨e1, e2, e3⟩) (fun i hi j u hj => ?_) (fun i hi => ?_) h6
      · rw [dif_pos hi] at hj
        exact (Classical.choose_spec (hc i hi)).2 j u hj
      · have := (Classical.choose_spec (hc i hi)).1
        simp only [dif_pos hi]
        exact this

/-- What a name of an object is. -/
def RK.val : RK → Nat → Value
  | .yield, g => .func (.yield g) #[] #[]
  | .map, g => .map (some g)
  | _, g => .pointer (some ⟨g, 0, none⟩)
/-- .. of n elements. -/
def RK.is : RK → Nat → Nat → Nat → Value → Prop
  | .opt, g, n, cap, v => n = 1 ∧ cap = 1 ∧ (v = .pointer none ∨ v = .pointer (some ⟨g, 0, none⟩))
  | .data, g, n, _, v => (∃ p, v = .pointer p) ∧ (0 < n → v = .pointer (some ⟨g, 0, none⟩))
  | .buf, g, n, cap, v => v = .slice (some ⟨g, 0, none⟩) n cap
  | k, g, _, _, v => v = k.val g
/-- .. of a row that lies nowhere. -/
def RK.nil : RK → Value → Prop
  | .data, v => v = .pointer none
  | .buf, v => v = .slice none 0 0
  | _, _ => False

/-- A function's value: with what it captures; or a method's, with its receiver. -/
def fval (f : FuncId) (cs : Array Value) : Value := bif mB f then .func (.func f) #[] cs else .func (.func (mDec f)) cs #[]
theorem fval_fn {f : FuncId} (h : mB f = true) (cs : Array Value) : fval f cs = .func (.func f) #[] cs := by unfold fval; rw [h]; rfl
theorem fval_m {f : FuncId} (h : mB f = false) (cs : Array Value) : fval f cs = .func (.func (mDec f)) cs #[] := by unfold fval; rw [h]; rfl
theorem mB_of {f : FuncId} (h : fnB f = true) : mB f = true := by
  unfold fnB at h; unfold mB; rw [Nat.blt_eq] at *; omega

mutual
def VR (w : World) (Im : Nat → Prop) (ρ : Nat → Loc) : AV → Value → Prop
  | .dead, _ => True
  | .int k n, v => v = .int k n
  | .bool b, v => v = .bool b
  | .str s, v => v = .string s
  | .agg l, v => ∃ cs, v = .agg cs ∧ VRs w Im ρ l cs.toList
  | .tup l, v => ∃ cs, v = .tuple cs ∧ VRs w Im ρ l cs.toList
  | .nilp, v => v = .pointer none
  | .ptr r i sz j, v => match ρ r with
    | .gone => True
    | .blk g n _ => v = .pointer (some ⟨g, i * sz + j, none⟩) ∧ i < n
    | _ => False
  | .icell l, v => ∃ a us, v = .pointer (some a) ∧ Im a.block ∧ a.spot = none ∧ VRs w Im (fun _ => .gone) l us ∧ ∀ j u, us[j]? = some u → w.cell? (a.add j) = some u
  | .nils _, v => ∃ A, v = .slice A 0 0
  | .own r _, v => match ρ r with
    | .gone => True
    | .virt => ∃ A, v = .slice A 0 0
    | .blk g n cap => v = .slice (some ⟨g, 0, none⟩) n cap
    | .unborn => False
  | .sl r sz off len, v => match ρ r with
    | .gone => True
    | .virt => len = 0 ∧ off = 0 ∧ ∃ A, v = .slice A 0 0
    | .blk g n _ => off + len ≤ n ∧ ∃ A c, v = .slice A len c ∧ len ≤ c ∧ (0 < len → A = some ⟨g, off * sz, none⟩)
    | .unborn => False
  | .imm t xs, v => IR w Im (.list t) xs [v]
  | .nili, v => v = .nilIface
  | .iface t x, v => ∃ u, v = .iface t u ∧ VR w Im ρ x u
  | .nilf, v => v = .nilFunc
  | .fn f l, v => ∃ cs, v = fval f cs ∧ VRs w Im ρ l cs.toList
  | .nilm, v => v = .map none
  | .oref k r, v => match ρ r with
    | .gone => True
    | .blk g n cap => k.is g n cap v
    | .virt => k.nil v
    | .unborn => False
def VRs (w : World) (Im : Nat → Prop) (ρ : Nat → Loc) : List AV → List Value → Prop
  | [], vs => vs = []
  | x :: l, vs => ∃ v r, vs = v :: r ∧ VR w Im ρ x v ∧ VRs w Im ρ l r
end

/-! ### Cells -/
theorem IR_len {w Im} : ∀ {t : Ty} {x : El t} {cs}, IR w Im t x cs → cs.length = csz t
  | .int _, _, _, h => by simp only [IR] at h; subst h; rfl
  | .bool, _, _, h => by simp only [IR] at h; subst h; rfl
  | .str, _, _, h => by simp only [IR] at h; subst h; rfl
  | .list _, _, _, h => by obtain ⟨A, cap, rfl, _⟩ := h; rfl
  | .prod a b, _, _, h => by
    obtain ⟨c1, c2, rfl, h1, h2⟩ := h
    simp [csz, IR_len h1, IR_len h2]
  | .node, _, _, h => by
    obtain ⟨v5, v6, rfl, _⟩ := NR_iff.1 h
    rfl

theorem VRs_nil {w Im ρ vs} : VRs w Im ρ [] vs ↔ vs = [] := by simp [VRs]
theorem VRs_cons {w Im ρ x l vs} : VRs w Im ρ (x :: l) vs ↔ ∃ v r, vs = v :: r ∧ VR w Im ρ x v ∧ VRs w Im ρ l r := by simp [VRs]

theorem VRs_len {w Im ρ} : ∀ {l vs}, VRs w Im ρ l vs → vs.length = l.length
  | [], _, h => by simp [VRs] at h; subst h; rfl
  | x :: l, _, h => by
    obtain ⟨v, r, rfl, _, h2⟩ := VRs_cons.1 h
    simp [VRs_len h2]

theorem VRs_append {w Im ρ} : ∀ {l l' vs vs'}, VRs w Im ρ l vs → VRs w Im ρ l' vs' → VRs w Im ρ (l ++ l') (vs ++ vs')
  | [], _, _, _, h, h' => by simp [VRs] at h; subst h; simpa using h'
  | x :: l, _, _, _, h, h' => by
    obtain ⟨v, r, rfl, h1, h2⟩ := VRs_cons.1 h
    exact VRs_cons.2 ⟨v, _, rfl, h1, VRs_append h2 h'⟩

theorem VRs_split {w Im ρ} : ∀ {l l' vs}, VRs w Im ρ (l ++ l') vs → ∃ a b, vs = a ++ b ∧ VRs w Im ρ l a ∧ VRs w Im ρ l' b
  | [], _, vs, h => ⟨[], vs, rfl, by simp [VRs], h⟩
  | x :: l, l', _, h => by
    obtain ⟨v, r, rfl, h1, h2⟩ := VRs_cons.1 h
    obtain ⟨a, b, rfl, ha, hb⟩ := VRs_split h2
    exact ⟨v :: a, b, rfl, VRs_cons.2 ⟨v, a, rfl, h1, ha⟩, hb⟩

theorem VRs_take {w Im ρ} {l vs} (h : VRs w Im ρ l vs) (n : Nat) : VRs w Im ρ (l.take n) (vs.take n) := by
  induction l generalizing vs n with
  | nil => simp [VRs] at h; subst h; simp [VRs]
  | cons x l ih =>
    obtain ⟨v, r, rfl, h1, h2⟩ := VRs_cons.1 h
    cases n with
    | zero => simp [VRs]
    | succ n => exact VRs_cons.2 ⟨v, _, by simp, h1, ih h2 n⟩

theorem VRs_drop {w Im ρ} {l vs} (h : VRs w Im ρ l vs) (n : Nat) : VRs w Im ρ (l.drop n) (vs.drop n) := by
  induction l generalizing vs n with
  | nil => simp [VRs] at h; subst h; simp [VRs]
  | cons x l ih =>
    obtain ⟨v, r, rfl, h1, h2⟩ := VRs_cons.1 h
    cases n with
    | zero => exact h
    | succ n => exact ih h2 n

theorem VRs_set {w Im ρ} {l vs} (h : VRs w Im ρ l vs) (n : Nat) {x v} (hx : VR w Im ρ x v) : VRs w Im ρ (l.set n x) (vs.set n v) := by
  induction l generalizing vs n with
  | nil => simp [VRs] at h; subst h; simp [VRs]
  | cons y l ih =>
    obtain ⟨u, r, rfl, h1, h2⟩ := VRs_cons.1 h
    cases n with
    | zero => exact VRs_cons.2 ⟨v, r, by simp, hx, h2⟩
    | succ n => exact VRs_cons.2 ⟨u, _, by simp, h1, ih h2 n⟩

theorem VRs_get {w Im ρ} {l vs} (h : VRs w Im ρ l vs) : ∀ n, VR w Im ρ (l.getD n .dead) (vs.getD n undef) := by
  induction l generalizing vs with
  | nil => intro n; simp [VR]
  | cons y l ih =>
    obtain ⟨u, r, rfl, h1, h2⟩ := VRs_cons.1 h
    intro n
    cases n with
    | zero => simpa using h1
    | succ n => simpa using ih h2 n

theorem VRs_one {w Im ρ x vs} : VRs w Im ρ [x] vs ↔ ∃ v, vs = [v] ∧ VR w Im ρ x v := by
  simp [VRs]

theorem enc_VRs {w Im ρ} : ∀ {t : Ty} {x : El t} {cs}, VRs w Im ρ (enc t x) cs ↔ IR w Im t x cs
  | .int k, n, cs => by simp [enc, VRs, VR, IR]
  | .bool, n, cs => by simp [enc, VRs, VR, IR]
  | .str, n, cs => by simp [enc, VRs, VR, IR]
  | .list t, xs, cs => by
    simp only [enc, VRs_one, VR]
    constructor
    · rintro ⟨v, rfl, h⟩; exact h
    · intro h
      obtain ⟨A, cap, rfl, _⟩ := id h
      exact ⟨_, rfl, h⟩
  | .prod a b, p, cs => by
    simp only [enc, IR]
    constructor
    · intro h
      obtain ⟨c1, c2, rfl, h1, h2⟩ := VRs_split h
      exact ⟨c1, c2, rfl, enc_VRs.1 h1, enc_VRs.1 h2⟩
    · rintro ⟨c1, c2, rfl, h1, h2⟩
      exact VRs_append (enc_VRs.2 h1) (enc_VRs.2 h2)
  | .node, x, cs => by
    rw [IR, NR_iff]
    constructor
    · intro h
      simp only [enc] at h
      obtain ⟨_, _, rfl, e1, h⟩ := VRs_cons.1 h
      obtain ⟨_, _, rfl, e2, h⟩ := VRs_cons.1 h
      obtain ⟨_, _, rfl, e3, h⟩ := VRs_cons.1 h
      obtain ⟨_, _, rfl, e4, h⟩ := VRs_cons.1 h
      obtain ⟨v5, _, rfl, e5, h⟩ := VRs_cons.1 h
      obtain ⟨v6, _, rfl, e6, h⟩ := VRs_cons.1 h
      obtain rfl := VRs_nil.1 h
      obtain rfl := e1; obtain rfl := e2; obtain rfl := e3; obtain rfl := e4
      exact ⟨v5, v6, rfl, e5, e6⟩
    · rintro ⟨v5, v6, rfl, h5, h6⟩
      exact VRs_cons.2 ⟨_, _, rfl, rfl, VRs_cons.2 ⟨_, _, rfl, rfl, VRs_cons.2 ⟨_, _, rfl, rfl, VRs_cons.2 ⟨_, _, rfl, rfl, VRs_cons.2 ⟨_, _, rfl, h5, VRs_cons.2 ⟨_, _, rfl, h6, VRs_nil.2 rfl⟩⟩⟩⟩⟩⟩

theorem enc_len : ∀ (t : Ty) (x : El t), (enc t x).length = csz t
  | .int _, _ => rfl
  | .bool, _ => rfl
  | .str, _ => rfl
  | .list _, _ => rfl
  | .prod a b, p => by simp [enc, csz, enc_len a, enc_len b]
  | .node, _ => rfl

theorem csz_pos : ∀ t : Ty, 0 < csz t
  | .int _ => by simp [csz]
  | .bool => by simp [csz]
  | .str => by simp [csz]
  | .list _ => by simp [csz]
  | .prod a b => by have := csz_pos a; simp [csz]; omega
  | .node => by simp [csz]

/-! ### It stays so -/
theorem cell_same {w w' : World} {a : Addr} (h : w'.heap[a.block]? = w.heap[a.block]?) : w'.cell? a = w.cell? a := World.cell?_of_block h

theorem add_block (a : Addr) (n : Nat) : (a.add n).block = a.block := by unfold Addr.add; split <;> rfl

theorem cell_keep {w w' : World} {a : Addr} (n : Nat) (h : w'.heap[a.block]? = w.heap[a.block]?) : w'.cell? (a.add n) = w.cell? (a.add n) :=
  cell_same (by rw [add_block]; exact h)

theorem TxR_mono {w w' : World} {Im Im' : Nat → Prop} (hw : ∀ b, Im b → w'.heap[b]? = w.heap[b]?) (hi : ∀ b, Im b → Im' b) {p v} (h : TxR w Im p v) : TxR w' Im' p v := by
  obtain ⟨A, cap, e, hl, h⟩ := h
  refine ⟨A, cap, e, hl, fun hne => ?_⟩
  obtain ⟨a, ha, him, hs, hc⟩ := h hne
  refine ⟨a, ha, hi _ him, hs, fun i hi' => ?_⟩
  obtain ⟨us, hu, hcell⟩ := hc i hi'
  refine ⟨us, hu, fun j u hj => ?_⟩
  rw [cell_keep _ (hw _ him)]
  exact hcell j u hj
theorem NR_mono {w w' : World} {Im Im' : Nat → Prop} (hw : ∀ b, Im b → w'.heap[b]? = w.heap[b]?) (hi : ∀ b, Im b → Im' b) {x cs} (h : NR w Im x cs) : NR w' Im' x cs := by
  induction h with
  | mk k s n a l p A cap ad us pv h1 h2 h3 h4 h5 ih =>
    refine NR.mk k s n a l p A cap ad us pv h1 (fun hne => ?_) (fun i hi' j u hj => ?_) ih (TxR_mono hw hi h5)
    · obtain ⟨e1, e2, e3⟩ := h2 hne
      exact ⟨e1, hi _ e2, e3⟩
    · have hne : l ≠ [] := fun e => by rw [e] at hi'; exact absurd hi' (Nat.not_lt_zero _)
      rw [cell_keep _ (hw _ (h2 hne).2.1)]
      exact h3 i hi' j u hj

theorem IR_mono {w w' : World} {Im Im' : Nat → Prop} (hw : ∀ b, Im b → w'.heap[b]? = w.heap[b]?) (hi : ∀ b, Im b → Im' b) :
    ∀ {t : Ty} {x : El t} {cs}, IR w Im t x cs → IR w' Im' t x cs
  | .int _, _, _, h => h
  | .bool, _, _, h => h
  | .str, _, _, h => h
  | .list t, xs, cs, h => by
    obtain ⟨A, cap, rfl, hl, h⟩ := h
    refine ⟨A, cap, rfl, hl, fun hne => ?_⟩
    obtain ⟨a, ha, him, hs, hc⟩ := h hne
    refine ⟨a, ha, hi _ him, hs, fun i hi' => ?_⟩
    obtain ⟨us, hu, hcell⟩ := hc i hi'
    refine ⟨us, IR_mono hw hi hu, fun j u hj => ?_⟩
    rw [cell_keep _ (hw _ him)]
    exact hcell j u hj
  | .prod a b, _, _, h => by
    obtain ⟨c1, c2, rfl, h1, h2⟩ := h
    exact ⟨c1, c2, rfl, IR_mono hw hi h1, IR_mono hw hi h2⟩
  | .node, _, _, h => NR_mono hw hi h

/-- Rows stay where they are, or are gone; new ones come. -/
def Ext (ρ ρ' : Nat → Loc) : Prop := ∀ r, ρ' r = ρ r ∨ ρ' r = .gone ∨ ρ r = .unborn

theorem Ext.refl (ρ : Nat → Loc) : Ext ρ ρ := fun _ => .inl rfl

mutual
theorem VR_mono {w w' : World} {Im Im' : Nat → Prop} {ρ ρ' : Nat → Loc} (hw : ∀ b, Im b → w'.heap[b]? = w.heap[b]?) (hi : ∀ b, Im b → Im' b) (hρ : Ext ρ ρ') :
    ∀ (x : AV) (v : Value), VR w Im ρ x v → VR w' Im' ρ' x v
  | .dead, _, _ => trivial
  | .int _ _, _, h => h
  | .bool _, _, h => h
  | .str _, _, h => h
  | .agg l, v, h => by
    obtain ⟨cs, rfl, h⟩ := h
    exact ⟨cs, rfl, VRs_mono hw hi hρ l _ h⟩
  | .tup l, v, h => by
    obtain ⟨cs, rfl, h⟩ := h
    exact ⟨cs, rfl, VRs_mono hw hi hρ l _ h⟩
  | .nilp, _, h => h
  | .ptr r i sz j, v, h => by
    simp only [VR] at h ⊢
    rcases hρ r with e | e | e
    · rw [e]; exact h
    · rw [e]; trivial
    · rw [e] at h; exact h.elim
  | .icell l, v, h => by
    obtain ⟨a, us, rfl, him, hs, hv, hc⟩ := h
    refine ⟨a, us, rfl, hi _ him, hs, VRs_mono hw hi (Ext.refl _) l _ hv, fun j u hj => ?_⟩
    rw [cell_keep _ (hw _ him)]
    exact hc j u hj
  | .nils _, _, h => h
  | .own r _, v, h => by
    simp only [VR] at h ⊢
    rcases hρ r with e | e | e
    · rw [e]; exact h
    · rw [e]; trivial
    · rw [e] at h; exact h.elim
  | .sl r sz off len, v, h => by
    simp only [VR] at h ⊢
    rcases hρ r with e | e | e
    · rw [e]; exact h
    · rw [e]; trivial
    · rw [e] at h; exact h.elim
  | .imm t xs, v, h => IR_mono (t := .list t) hw hi h
  | .nili, _, h => h
  | .iface t x, v, h => by
    obtain ⟨u, rfl, h⟩ := h
    exact ⟨u, rfl, VR_mono hw hi hρ x u h⟩
  | .nilf, _, h => h
  | .fn f l, v, h => by
    obtain ⟨cs, rfl, h⟩ := h
    exact ⟨cs, rfl, VRs_mono hw hi hρ l _ h⟩
  | .nilm, _, h => h
  | .oref k r, v, h => by
    simp only [VR] at h ⊢
    rcases hρ r with e | e | e
    · rw [e]; exact h
    · rw [e]; trivial
    · rw [e] at h; exact h.elim
theorem VRs_mono {w w' : World} {Im Im' : Nat → Prop} {ρ ρ' : Nat → Loc} (hw : ∀ b, Im b → w'.heap[b]? = w.heap[b]?) (hi : ∀ b, Im b → Im' b) (hρ : Ext ρ ρ') :
    ∀ (l : List AV) (vs : List Value), VRs w Im ρ l vs → VRs w' Im' ρ' l vs
  | [], _, h => h
  | x :: l, _, h => by
    obtain ⟨v, r, rfl, h1, h2⟩ := VRs_cons.1 h
    exact VRs_cons.2 ⟨v, r, rfl, VR_mono hw hi hρ x v h1, VRs_mono hw hi hρ l r h2⟩
end

mutual
/-- Other names for the rows. -/
theorem VR_ren {w : World} {Im : Nat → Prop} {ρ ρ' : Nat → Loc} {f : Nat → Option Nat} (hf : ∀ r q, f r = some q → ρ' q = ρ r) :
    ∀ (x : AV) (v : Value), VR w Im ρ x v → VR w Im ρ' (x.ren f) v
  | .dead, _, _ => trivial
  | .int _ _, _, h => h
  | .bool _, _, h => h
  | .str _, _, h => h
  | .agg l, v, h => by
    obtain ⟨cs, rfl, h⟩ := h
    exact ⟨cs, rfl, VRs_ren hf l _ h⟩
  | .tup l, v, h => by
    obtain ⟨cs, rfl, h⟩ := h
    exact ⟨cs, rfl, VRs_ren hf l _ h⟩
  | .nilp, _, h => h
  | .ptr r i sz j, v, h => by
    simp only [AV.ren]
    cases e : f r with
    | none => trivial
    | some q => simp only [VR] at h ⊢; rw [hf r q e]; exact h
  | .icell l, v, h => h
  | .nils _, _, h => h
  | .own r sz, v, h => by
    simp only [AV.ren]
    cases e : f r with
    | none => trivial
    | some q => simp only [VR] at h ⊢; rw [hf r q e]; exact h
  | .sl r sz off len, v, h => by
    simp only [AV.ren]
    cases e : f r with
    | none => trivial
    | some q => simp only [VR] at h ⊢; rw [hf r q e]; exact h
  | .imm t xs, v, h => h
  | .nili, _, h => h
  | .iface t x, v, h => by
    obtain ⟨u, rfl, h⟩ := h
    exact ⟨u, rfl, VR_ren hf x u h⟩
  | .nilf, _, h => h
  | .fn f l, v, h => by
    obtain ⟨cs, rfl, h⟩ := h
    exact ⟨cs, rfl, VRs_ren hf l _ h⟩
  | .nilm, _, h => h
  | .oref k r, v, h => by
    simp only [AV.ren]
    cases e : f r with
    | none => trivial
    | some q => simp only [VR] at h ⊢; rw [hf r q e]; exact h
theorem VRs_ren {w : World} {Im : Nat → Prop} {ρ ρ' : Nat → Loc} {f : Nat → Option Nat} (hf : ∀ r q, f r = some q → ρ' q = ρ r) :
    ∀ (l : List AV) (vs : List Value), VRs w Im ρ l vs → VRs w Im ρ' (AV.renL f l) vs
  | [], _, h => h
  | x :: l, _, h => by
    obtain ⟨v, r, rfl, h1, h2⟩ := VRs_cons.1 h
    exact VRs_cons.2 ⟨v, r, rfl, VR_ren hf x v h1, VRs_ren hf l r h2⟩
end

mutual
/-- Where no row is named it is all one. -/
theorem VR_noref {w : World} {Im : Nat → Prop} {ρ ρ' : Nat → Loc} :
    ∀ (x : AV) (v : Value), x.refs = [] → VR w Im ρ x v → VR w Im ρ' x v
  | .dead, _, _, _ => trivial
  | .int _ _, _, _, h => h
  | .bool _, _, _, h => h
  | .str _, _, _, h => h
  | .agg l, v, hr, h => by
    obtain ⟨cs, rfl, h⟩ := h
    exact ⟨cs, rfl, VRs_noref l _ hr h⟩
  | .tup l, v, hr, h => by
    obtain ⟨cs, rfl, h⟩ := h
    exact ⟨cs, rfl, VRs_noref l _ hr h⟩
  | .nilp, _, _, h => h
  | .ptr r i sz j, v, hr, h => by simp [AV.refs] at hr
  | .icell l, v, _, h => h
  | .nils _, _, _, h => h
  | .own r sz, v, hr, h => by simp [AV.refs] at hr
  | .sl r sz off len, v, hr, h => by simp [AV.refs] at hr
  | .imm t xs, v, _, h => h
  | .nili, _, _, h => h
  | .iface t x, v, hr, h => by
    obtain ⟨u, rfl, h⟩ := h
    exact ⟨u, rfl, VR_noref x u hr h⟩
  | .nilf, _, _, h => h
  | .fn f l, v, hr, h => by
    obtain ⟨cs, rfl, h⟩ := h
    exact ⟨cs, rfl, VRs_noref l _ hr h⟩
  | .nilm, _, _, h => h
  | .oref k r, v, hr, h => by simp [AV.refs] at hr
theorem VRs_noref {w : World} {Im : Nat → Prop} {ρ ρ' : Nat → Loc} :
    ∀ (l : List AV) (vs : List Value), AV.refsL l = [] → VRs w Im ρ l vs → VRs w Im ρ' l vs
  | [], _, _, h => h
  | x :: l, _, hr, h => by
    obtain ⟨v, r, rfl, h1, h2⟩ := VRs_cons.1 h
    simp only [AV.refsL, List.append_eq_nil_iff] at hr
    exact VRs_cons.2 ⟨v, r, rfl, VR_noref x v hr.1 h1, VRs_noref l r hr.2 h2⟩
end

mutual
/-- Where nothing lies in memory that stays as it is, it is all one what does. -/
theorem VR_noImm {w : World} {Im Im' : Nat → Prop} {ρ : Nat → Loc} :
    ∀ (x : AV) (v : Value), x.noImm = true → VR w Im ρ x v → VR w Im' ρ x v
  | .dead, _, _, _ => trivial
  | .int _ _, _, _, h => h
  | .bool _, _, _, h => h
  | .str _, _, _, h => h
  | .agg l, v, hr, h => by
    obtain ⟨cs, rfl, h⟩ := h
    exact ⟨cs, rfl, VRs_noImm l _ hr h⟩
  | .tup l, v, hr, h => by
    obtain ⟨cs, rfl, h⟩ := h
    exact ⟨cs, rfl, VRs_noImm l _ hr h⟩
  | .nilp, _, _, h => h
  | .ptr r i sz j, v, _, h => h
  | .icell l, v, hr, h => by simp [AV.noImm] at hr
  | .nils _, _, _, h => h
  | .own r sz, v, _, h => h
  | .sl r sz off len, v, _, h => h
  | .imm t xs, v, hr, h => by simp [AV.noImm] at hr
  | .nili, _, _, h => h
  | .iface t x, v, hr, h => by
    obtain ⟨u, rfl, h⟩ := h
    exact ⟨u, rfl, VR_noImm x u hr h⟩
  | .nilf, _, _, h => h
  | .fn f l, v, hr, h => by
    obtain ⟨cs, rfl, h⟩ := h
    exact ⟨cs, rfl, VRs_noImm l _ hr h⟩
  | .nilm, _, _, h => h
  | .oref k r, v, _, h => h
theorem VRs_noImm {w : World} {Im Im' : Nat → Prop} {ρ : Nat → Loc} :
    ∀ (l : List AV) (vs : List Value), AV.noImmL l = true → VRs w Im ρ l vs → VRs w Im' ρ l vs
  | [], _, _, h => h
  | x :: l, _, hr, h => by
    obtain ⟨v, r, rfl, h1, h2⟩ := VRs_cons.1 h
    simp only [AV.noImmL, Bool.and_eq_true] at hr
    exact VRs_cons.2 ⟨v, r, rfl, VR_noImm x v hr.1 h1, VRs_noImm l r hr.2 h2⟩
end

theorem IR_flat {w : World} {Im Im' : Nat → Prop} : ∀ {t : Ty} {x : El t} {cs}, t.flat = true → IR w Im t x cs → IR w Im' t x cs
  | .int _, _, _, _, h => h
  | .bool, _, _, _, h => h
  | .str, _, _, _, h => h
  | .list t, _, _, hf, _ => by simp [Ty.flat] at hf
  | .prod a b, _, _, hf, h => by
    simp only [Ty.flat, Bool.and_eq_true] at hf
    obtain ⟨c1, c2, rfl, h1, h2⟩ := h
    exact ⟨c1, c2, rfl, IR_flat hf.1 h1, IR_flat hf.2 h2⟩
  | .node, _, _, hf, _ => by simp [Ty.flat] at hf
end Go.Proofs.YtfogafinohfpfaaGreatDoorV
