/- What a law's arguments are, read as values; the law's call. -/
import Derived.Test.YtfogafinohfpfaaGreatDoorVs2
import Derived.SizedLaws
import Derived.Carry
import Derived.ChangeOld
import Derived.ProofKit
namespace Go.Proofs.YtfogafinohfpfaaGreatDoorV
open Go.RowKit
set_option linter.unusedVariables false
set_option linter.unusedSimpArgs false

/-- Nothing in a tree is greater than it may be. -/
inductive NWF : Node → Prop
  | mk (k : Int) (s : ByteArray) (n a : Int) (l : List Node) (p : List ByteArray) (hk : (Lit.int .i64 k).wf = true) (hs : s.size ≤ maxLen) (hn : (Lit.int .u32 n).wf = true) (ha : (Lit.int .i64 a).wf = true)
      (hl : l.length ≤ maxLen) (hls : ∀ i (h : i < l.length), NWF l[i]) (hp : p.length ≤ maxLen) (hps : ∀ x ∈ p, x.size ≤ maxLen) : NWF (.mk k s n a l p)

/-- Nothing in it is greater than it may be. -/
def WF : (t : Ty) → El t → Prop
  | .int k, n => (Lit.int k n).wf = true
  | .bool, _ => True
  | .str, s => s.size ≤ maxLen
  | .list t, xs => xs.length ≤ maxLen ∧ ∀ x ∈ xs, WF t x
  | .prod a b, p => WF a p.1 ∧ WF b p.2
  | .node, x => NWF x

/-- The type's cells lie as the value's do. -/
def okFs (P : Program) (rec : TypeId → Ty → Bool) : Nat → List Field → Ty → Bool
  | _, [], _ => false
  | off, [f], ty => f.offset == off && P.cellsOf f.type == csz ty && rec f.type ty
  | off, f :: fs, .prod a b => f.offset == off && P.cellsOf f.type == csz a && rec f.type a && okFs P rec (off + csz a) fs b
  | _, _, _ => false

def okT (P : Program) : Nat → TypeId → Ty → Bool
  | 0, _, _ => false
  | n + 1, t, ty => match P.underlying t with
    | some .bool => decide (ty = .bool)
    | some (.int k) => decide (ty = .int k)
    | some .string => decide (ty = .str)
    | some (.slice e) => match ty with
      | .list x => okT P n e x && P.cellsOf e == csz x
      | _ => false
    | some (.struct fs) => bif decide (ty = .node) then isNode P t else P.cellsOf t == csz ty && okFs P (okT P n) 0 fs.toList ty
    | some (.array k e) => match ty with
      | .prod a b => k == 2 && (decide (a = b) && (okT P n e a && (P.cellsOf e == csz a && P.cellsOf t == csz a + csz a)))
      | _ => false
    | _ => false

theorem mapM_range {α : Type} {f : Nat → Option α} : ∀ {n : Nat} {l : List α}, (List.range n).mapM f = some l → l.length = n ∧ ∀ i (h : i < l.length), f i = some l[i] := by
  intro n l h
  have gen : ∀ (ns : List Nat) (l : List α), ns.mapM f = some l → l.length = ns.length ∧ ∀ i (h : i < l.length) (h' : i < ns.length), f ns[i] = some l[i] := by
    intro ns
    induction ns with
    | nil => intro l h; simp at h; subst h; simp
    | cons a r ih =>
      intro l h
      simp only [List.mapM_cons, Option.bind_eq_bind, Option.bind_eq_some_iff, Option.pure_def, Option.some.injEq] at h
      obtain ⟨x, hx, y, hy, rfl⟩ := h
      obtain ⟨h1, h2⟩ := ih y hy
      refine ⟨by simp [h1], ?_⟩
      intro i h h'
      cases i with
      | zero => simpa using hx
      | succ i => simpa using h2 i (by simpa using h) (by simpa using h')
  obtain ⟨h1, h2⟩ := gen _ _ h
  simp only [List.length_range] at h1
  exact ⟨h1, fun i hi => by
    have := h2 i hi (by simp; omega)
    rwa [List.getElem_range] at this⟩

theorem mapM_cons_some {α β : Type} {f : α → Option β} {a : α} {r : List α} {l : List β} (h : (a :: r).mapM f = some l) : ∃ x y, f a = some x ∧ r.mapM f = some y ∧ l = x :: y := by
  simp only [List.mapM_cons, Option.bind_eq_bind, Option.bind_eq_some_iff, Option.pure_def, Option.some.injEq] at h
  obtain ⟨x, hx, y, hy, rfl⟩ := h
  exact ⟨x, y, hx, hy, rfl⟩

/-- An argument as the interpreter takes it. -/
def argV (P : Program) (t : TypeId) (ty : Ty) (x : El ty) : AV := match isAggT P t, enc ty x with
  | true, l => .agg l
  | false, [v] => v
  | false, l => .agg l

section
variable {H : Type} {enc : TypeId × Value → H} {P : Program} {w : World} {held : Bool} {spare : Nat → Bool}

abbrev Low (w : World) : Nat → Prop := fun b => b < w.heap.size

theorem cells_read {a : Addr} {n : Nat} {us : List Value} (h : w.cells? 0 a n = some us) : us.length = n ∧ ∀ j u, us[j]? = some u → w.cell? (a.add j) = some u := by
  unfold World.cells? at h
  rw [if_pos (Nat.zero_le _)] at h
  obtain ⟨h1, h2⟩ := mapM_range h
  refine ⟨h1, fun j u hj => ?_⟩
  obtain ⟨hlt, rfl⟩ := List.getElem?_eq_some_iff.1 hj
  exact h2 j hlt

theorem choose_list {α β : Type} {R : Nat → α → Prop} : ∀ (n : Nat), (∀ i, i < n → ∃ x, R i x) → ∃ l : List α, l.length = n ∧ ∀ i (h : i < l.length), R i l[i]
  | 0, _ => ⟨[], rfl, fun i h => by simp at h⟩
  | n + 1, h => by
    obtain ⟨l, hl, hr⟩ := choose_list (β := β) n (fun i hi => h i (by omega))
    obtain ⟨x, hx⟩ := h n (by omega)
    refine ⟨l ++ [x], by simp [hl], fun i hi => ?_⟩
    by_cases e : i < l.length
    · rw [List.getElem_append_left e]; exact hr i e
    · have : i = n := by simp at hi; omega
      subst this
      rw [List.getElem_append_right (by omega)]
      simpa using hx

theorem cell_block {a : Addr} {v : Value} (h : w.cell? a = some v) : a.block < w.heap.size ∧ a.spot = none := by
  unfold World.cell? at h
  split at h
  · rename_i c e fr hc
    split at h
    · cases h
    · rename_i hs
      exact ⟨(Array.getElem?_eq_some_iff.1 hc).1, by simpa using hs⟩
  · cases h

theorem okFs_open {rec : TypeId → Ty → Bool} {fuel : Nat} {cs : List Value}
    (hrec : ∀ t ty us d, rec t ty = true → DataW.trod enc P w 0 spare held fuel t us = some d → ∃ x : El ty, IR w (Low w) ty x us ∧ WF ty x) :
    ∀ (fs : List Field) (off : Nat) (ty : Ty) xs, okFs P rec off fs ty = true → (fs.mapM fun f => DataW.trod enc P w 0 spare held fuel f.type ((cs.drop f.offset).take (P.cellsOf f.type))) = some xs → cs.length = off + csz ty →
      ∃ x : El ty, IR w (Low w) ty x (cs.drop off) ∧ WF ty x
  | [], off, ty, xs, h, _, _ => by simp [okFs] at h
  | [f], off, ty, xs, h, hm, hl => by
    simp only [okFs, Bool.and_eq_true, beq_iff_eq] at h
    obtain ⟨⟨h1, h2⟩, h3⟩ := h
    obtain ⟨y, ys, hy, _, rfl⟩ := mapM_cons_some hm
    rw [h1, h2, List.take_of_length_le (by simp; omega)] at hy
    exact hrec _ _ _ _ h3 hy
  | f :: g :: fs, off, .prod a b, xs, h, hm, hl => by
    simp only [okFs, Bool.and_eq_true, beq_iff_eq] at h
    obtain ⟨⟨⟨h1, h2⟩, h3⟩, h4⟩ := h
    obtain ⟨y, ys, hy, hys, rfl⟩ := mapM_cons_some hm
    rw [h1, h2] at hy
    obtain ⟨x1, i1, w1⟩ := hrec _ _ _ _ h3 hy
    obtain ⟨x2, i2, w2⟩ := okFs_open hrec (g :: fs) (off + csz a) b ys h4 hys (by simp only [csz] at hl; omega)
    refine ⟨(x1, x2), ⟨_, _, ?_, i1, i2⟩, w1, w2⟩
    rw [← List.drop_drop, List.take_append_drop]
  | f :: g :: fs, off, .int _, xs, h, _, _ => by simp [okFs] at h
  | f :: g :: fs, off, .bool, xs, h, _, _ => by simp [okFs] at h
  | f :: g :: fs, off, .str, xs, h, _, _ => by simp [okFs] at h
  | f :: g :: fs, off, .list _, xs, h, _, _ => by simp [okFs] at h
  | f :: g :: fs, off, .node, xs, h, _, _ => by simp [okFs] at h

/-- What is known of a tree's type. -/
theorem isNode_open {t : TypeId} (h : isNode P t = true) : ∃ fs f0 f1 f2 f3 f4 f5 e', P.underlying t = some (.struct fs) ∧ fs.toList = [f0, f1, f2, f3, f4, f5] ∧ P.underlying f0.type = some (.int .i64) ∧ P.underlying f1.type = some .string ∧
    P.underlying f2.type = some (.int .u32) ∧ P.underlying f3.type = some (.int .i64) ∧ P.underlying f4.type = some (.slice t) ∧ P.underlying f5.type = some (.slice e') ∧ P.underlying e' = some .string ∧ P.cellsOf t = 6 ∧ P.cellsOf e' = 1 ∧
    (f0.offset = 0 ∧ f1.offset = 1 ∧ f2.offset = 2 ∧ f3.offset = 3 ∧ f4.offset = 4 ∧ f5.offset = 5) ∧
    (P.cellsOf f0.type = 1 ∧ P.cellsOf f1.type = 1 ∧ P.cellsOf f2.type = 1 ∧ P.cellsOf f3.type = 1 ∧ P.cellsOf f4.type = 1 ∧ P.cellsOf f5.type = 1) := by
  unfold isNode at h
  split at h
  · rename_i fs hu
    split at h
    · rename_i f0 f1 f2 f3 f4 f5 hfs
      split at h
      · rename_i e e' h0 h1 h2 h3 h4 h5
        simp only [Bool.and_eq_true, beq_iff_eq, List.map_cons, List.map_nil, List.cons.injEq, and_true] at h
        obtain ⟨⟨rfl, hs⟩, ⟨⟨hc, hc'⟩, ho⟩, hz⟩ := h
        split at hs
        · rename_i hes
          exact ⟨fs, f0, f1, f2, f3, f4, f5, e', hu, hfs, h0, h1, h2, h3, h4, h5, hes, hc, hc', ho, hz⟩
        · cases hs
      · cases h
    · cases h
  · cases h

theorem trod_open : ∀ (n fuel : Nat) (t : TypeId) (ty : Ty) (cs : List Value) d, okT P n t ty = true → DataW.trod enc P w 0 spare held fuel t cs = some d → ∃ x : El ty, IR w (Low w) ty x cs ∧ WF ty x
  | 0, _, _, _, _, _, h, _ => by simp [okT] at h
  | n + 1, 0, t, ty, cs, d, h, hd => by simp [DataW.trod] at hd
  | n + 1, fuel + 1, t, ty, cs, d, h, hd => by
    simp only [okT] at h
    split at h
    · rename_i hu
      simp only [decide_eq_true_eq] at h
      subst h
      have : ∃ b, cs = [.bool b] := by
        unfold DataW.trod at hd
        simp only [hu] at hd
        split at hd <;> simp_all
      obtain ⟨b, rfl⟩ := this
      exact ⟨b, rfl, trivial⟩
    · rename_i k hu
      simp only [decide_eq_true_eq] at h
      subst h
      have : ∃ m, cs = [.int k m] ∧ (Lit.int k m).wf = true := by
        unfold DataW.trod at hd
        simp only [hu] at hd
        split at hd <;> simp_all
      obtain ⟨m, rfl, hw⟩ := this
      exact ⟨m, rfl, hw⟩
    · rename_i hu
      simp only [decide_eq_true_eq] at h
      subst h
      have : ∃ s, cs = [.string s] ∧ s.size ≤ maxLen := by
        unfold DataW.trod at hd
        simp only [hu] at hd
        split at hd <;> simp_all
      obtain ⟨s, rfl, hw⟩ := this
      exact ⟨s, rfl, hw⟩
    · rename_i e hu
      split at h
      · rename_i x
        simp only [Bool.and_eq_true, beq_iff_eq] at h
        obtain ⟨hx, hsz⟩ := h
        have hz : ∃ A len cap, cs = [.slice A len cap] := by
          unfold DataW.trod at hd
          simp only [hu] at hd
          split at hd <;> simp_all
        obtain ⟨A, len, cap, rfl⟩ := hz
        cases A with
        | none =>
          have : len = 0 ∧ cap = 0 := by
            unfold DataW.trod at hd
            simp only [hu] at hd
            split at hd <;> simp_all
          obtain ⟨rfl, rfl⟩ := this
          exact ⟨[], ⟨none, 0, rfl, Nat.le_refl _, fun h => absurd rfl h⟩, by simp, fun x hx => by simp at hx⟩
        | some a =>
          unfold DataW.trod at hd
          simp only [hu] at hd
          split at hd
          · rename_i hb
            simp only [Option.bind_eq_some_iff] at hd
            obtain ⟨elems, hel, hd⟩ := hd
            obtain ⟨h1, h2⟩ := mapM_range hel
            have each : ∀ i, i < len → ∃ y : El x, ∃ us, IR w (Low w) x y us ∧ WF x y ∧ us.length = csz x ∧ ∀ j u, us[j]? = some u → w.cell? ((a.add (i * csz x)).add j) = some u := by
              intro i hi
              have := h2 i (by omega)
              simp only [Option.bind_eq_some_iff] at this
              obtain ⟨us, hus, htr⟩ := this
              obtain ⟨y, hy, hwf⟩ := trod_open n fuel e x us _ hx htr
              rw [hsz] at hus
              obtain ⟨c1, c2⟩ := cells_read hus
              exact ⟨y, us, hy, hwf, c1, c2⟩
            obtain ⟨xs, hlen, hxs⟩ := choose_list (β := Unit) (R := fun i (y : El x) => ∃ us, IR w (Low w) x y us ∧ WF x y ∧ us.length = csz x ∧ ∀ j u, us[j]? = some u → w.cell? ((a.add (i * csz x)).add j) = some u) len each
            have haa : ∀ p q : Nat, (a.add p).add q = a.add (p + q) := by
              intro p q
              unfold Addr.add
              by_cases hp : p = 0
              · subst hp; simp
              · by_cases hq : q = 0
                · subst hq; simp [hp]
                · simp [hp, hq]; omega
            subst hlen
            refine ⟨xs, ⟨some a, cap, rfl, hb.2.1, fun hne => ?_⟩, by omega, fun y hy => ?_⟩
            · have h0 : 0 < xs.length := by cases xs with | nil => exact absurd rfl hne | cons _ _ => simp
              obtain ⟨us, _, _, hl, hc⟩ := hxs 0 h0
              have hpos := csz_pos x
              have := hc 0 us[0] (by simp)
              rw [haa] at this
              simp only [Nat.zero_mul, Nat.add_zero] at this
              have ha : a.add 0 = a := by simp [Addr.add]
              rw [ha] at this
              obtain ⟨hb1, hs1⟩ := cell_block this
              refine ⟨a, rfl, hb1, hs1, fun i hi => ?_⟩
              obtain ⟨us, hir, _, _, hc⟩ := hxs i hi
              exact ⟨us, hir, fun j u hj => by rw [← haa]; exact hc j u hj⟩
            · obtain ⟨i, hi, rfl⟩ := List.getElem_of_mem hy
              obtain ⟨_, _, hwf, _⟩ := hxs i hi
              exact hwf
          · cases hd
      · cases h
    · rename_i fs hu
      by_cases hnode : ty = .node
      · subst hnode
        simp only [decide_true, cond_true] at h
        obtain ⟨fs', f0, f1, f2, f3, f4, f5, e', hu', hfs, u0, u1, u2, u3, u4, u5, ue, hc, hce, ⟨o0, o1, o2, o3, o4, o5⟩, z0, z1, z2, z3, z4, z5⟩ := isNode_open h
        rw [hu] at hu'
        cases hu'
        have hd' : ∃ xs, cs.length = P.cellsOf t ∧ (fs.toList.mapM fun f => DataW.trod enc P w 0 spare held fuel f.type ((cs.drop f.offset).take (P.cellsOf f.type))) = some xs := by
          unfold DataW.trod at hd
          simp only [hu] at hd
          split at hd <;> try (simp_all; done)
          rename_i hl
          simp only [Option.map_eq_some_iff] at hd
          obtain ⟨xs, hxs, _⟩ := hd
          exact ⟨xs, hl, hxs⟩
        obtain ⟨xs, hl, hm⟩ := hd'
        rw [hfs] at hm
        rw [hc] at hl
        obtain ⟨c0, c1, c2, c3, c4, c5, rfl⟩ : ∃ c0 c1 c2 c3 c4 c5, cs = [c0, c1, c2, c3, c4, c5] := by
          match cs, hl with
          | [c0, c1, c2, c3, c4, c5], _ => exact ⟨_, _, _, _, _, _, rfl⟩
        obtain ⟨_, _, d0, hm, _⟩ := mapM_cons_some hm
        obtain ⟨_, _, d1, hm, _⟩ := mapM_cons_some hm
        obtain ⟨_, _, d2, hm, _⟩ := mapM_cons_some hm
        obtain ⟨_, _, d3, hm, _⟩ := mapM_cons_some hm
        obtain ⟨_, _, d4, hm, _⟩ := mapM_cons_some hm
        obtain ⟨_, _, d5, _, _⟩ := mapM_cons_some hm
        rw [o0, z0] at d0; rw [o1, z1] at d1; rw [o2, z2] at d2; rw [o3, z3] at d3; rw [o4, z4] at d4; rw [o5, z5] at d5
        obtain ⟨k, i0, w0⟩ := trod_open 1 fuel f0.type (.int .i64) _ _ (by simp [okT, u0]) d0
        obtain ⟨s, i1, w1⟩ := trod_open 1 fuel f1.type .str _ _ (by simp [okT, u1]) d1
        obtain ⟨m, i2, w2⟩ := trod_open 1 fuel f2.type (.int .u32) _ _ (by simp [okT, u2]) d2
        obtain ⟨a, i3, w3⟩ := trod_open 1 fuel f3.type (.int .i64) _ _ (by simp [okT, u3]) d3
        obtain ⟨l, i4, w4⟩ := trod_open 2 fuel f4.type (.list .node) _ _ (by simp [okT, u4, hu, h, hc, csz]) d4
        obtain ⟨p, i5, w5⟩ := trod_open 2 fuel f5.type (.list .str) _ _ (by simp [okT, u5, ue, hce, csz]) d5
        refine ⟨.mk k s m a l p, NR_iff.2 ⟨c4, c5, ?_, i4, i5⟩, ?_⟩
        · simp only [IR] at i0 i1 i2 i3
          simp only [List.drop_succ_cons, List.drop_zero, List.take_succ_cons, List.take_zero, List.cons.injEq, and_true] at i0 i1 i2 i3
          subst i0; subst i1; subst i2; subst i3
          rfl
        · exact NWF.mk k s m a l p w0 w1 w2 w3 w4.1 (fun i hi => w4.2 _ (List.getElem_mem hi)) w5.1 w5.2
      simp only [hnode, decide_false, cond_false, Bool.and_eq_true, beq_iff_eq] at h
      obtain ⟨hc, hfs⟩ := h
      have hd' : ∃ xs, cs.length = P.cellsOf t ∧ (fs.toList.mapM fun f => DataW.trod enc P w 0 spare held fuel f.type ((cs.drop f.offset).take (P.cellsOf f.type))) = some xs := by
        unfold DataW.trod at hd
        simp only [hu] at hd
        split at hd <;> try (simp_all; done)
        rename_i hl
        simp only [Option.map_eq_some_iff] at hd
        obtain ⟨xs, hxs, _⟩ := hd
        exact ⟨xs, hl, hxs⟩
      obtain ⟨xs, hl, hm⟩ := hd'
      obtain ⟨x, h1, h2⟩ := okFs_open (fun t ty us d ht hd => trod_open n fuel t ty us d ht hd) fs.toList 0 ty xs hfs hm (by omega)
      exact ⟨x, by simpa using h1, h2⟩
    · rename_i k e hu
      split at h
      · rename_i a b
        simp only [Bool.and_eq_true, beq_iff_eq, decide_eq_true_eq] at h
        obtain ⟨rfl, rfl, hx, hsz, hc⟩ := h
        have hd' : ∃ xs, cs.length = P.cellsOf t ∧ ((List.range 2).mapM fun i => DataW.trod enc P w 0 spare held fuel e ((cs.drop (i * P.cellsOf e)).take (P.cellsOf e))) = some xs := by
          unfold DataW.trod at hd
          simp only [hu] at hd
          split at hd <;> try (simp_all; done)
          rename_i hl
          simp only [Option.map_eq_some_iff] at hd
          obtain ⟨xs, hxs, _⟩ := hd
          exact ⟨xs, hl, hxs⟩
        obtain ⟨xs, hl, hm⟩ := hd'
        rw [show List.range 2 = [0, 1] from rfl] at hm
        obtain ⟨_, _, d0, hm, _⟩ := mapM_cons_some hm
        obtain ⟨_, _, d1, _, _⟩ := mapM_cons_some hm
        rw [hsz, Nat.zero_mul, List.drop_zero] at d0
        rw [hsz, Nat.one_mul, List.take_of_length_le (by simp; omega)] at d1
        obtain ⟨x1, i1, w1⟩ := trod_open n fuel e a _ _ hx d0
        obtain ⟨x2, i2, w2⟩ := trod_open n fuel e a _ _ hx d1
        exact ⟨(x1, x2), ⟨_, _, (List.take_append_drop _ _).symm, i1, i2⟩, w1, w2⟩
      · cases h
    · cases h

theorem open_arg {n : Nat} {t : TypeId} {ty : Ty} {v : Value} {d : DataW H} {ps : List MemPlace} {base : Nat} {ρ : Nat → Loc} (hk : okT P n t ty = true) (hv : Value.okWide P w .any base t v) (h : DataW.Trod enc P w 0 spare held t v d ps) :
    ∃ x : El ty, WF ty x ∧ VR w (Low w) ρ (argV P t ty x) v := by
  obtain ⟨fuel, hd⟩ := h
  obtain ⟨x, hx, hwf⟩ := trod_open n fuel t ty _ _ hk hd
  refine ⟨x, hwf, ?_⟩
  have hvs : VRs w (Low w) ρ (_root_.Go.Proofs.YtfogafinohfpfaaGreatDoorV.enc ty x) v.cells.toList := enc_VRs.2 hx
  unfold argV
  cases hagg : isAggT P t with
  | true =>
    simp only
    have : ∃ cs, v = .agg cs := by
      unfold isAggT at hagg
      unfold Value.okWide at hv
      split at hagg
      · rename_i hu; rw [hu] at hv; exact ⟨_, hv.choose_spec.1⟩
      · rename_i hu; rw [hu] at hv; exact ⟨_, hv.choose_spec.1⟩
      · cases hagg
    obtain ⟨cs, rfl⟩ := this
    exact ⟨cs, rfl, hvs⟩
  | false =>
    have hsingle : ∃ y, _root_.Go.Proofs.YtfogafinohfpfaaGreatDoorV.enc ty x = [y] := by
      cases n with
      | zero => simp [okT] at hk
      | succ n =>
        simp only [okT] at hk
        unfold isAggT at hagg
        split at hk
        · simp only [decide_eq_true_eq] at hk; subst hk; exact ⟨_, rfl⟩
        · simp only [decide_eq_true_eq] at hk; subst hk; exact ⟨_, rfl⟩
        · simp only [decide_eq_true_eq] at hk; subst hk; exact ⟨_, rfl⟩
        · split at hk
          · exact ⟨_, rfl⟩
          · cases hk
        · rename_i hu; simp [hu] at hagg
        · rename_i hu; simp [hu] at hagg
        · cases hk
    obtain ⟨y, hy⟩ := hsingle
    rw [hy] at hvs ⊢
    simp only
    obtain ⟨u, hu, hr⟩ := VRs_one.1 hvs
    have : v = u := by
      cases v <;> simp only [Value.cells, Array.toList] at hu <;> try (simp_all; done)
      exfalso
      rename_i cs
      unfold Value.okWide at hv
      unfold isAggT at hagg
      split at hv
      · rename_i hs; simp [hs] at hagg
      · rename_i hs; simp [hs] at hagg
      · unfold Cell.okWide at hv
        revert hv
        cases n with
        | zero => simp [okT] at hk
        | succ n =>
          simp only [okT] at hk
          split at hk <;> rename_i hs <;> simp_all [Cell.ok]
    subst this
    exact hr
end

/-- What a law's world bears. -/
structure GL (W : World) : Prop where
  im : ∀ b ∈ GB, b < W.heap.size
  gw : GW W

/-- A law's call, of what is known of it. -/
theorem call_law {P : Program} {f : FuncId} (hfb : fnB f = true) {avs : List AV} {m' : Rows} {mm : Nat} (h : CallOK P f mm avs [] false (.bool true) m') {W : World} (gl : GL W) {vals : List Value} (hv : VRs W (Low W) (fun _ => .unborn) avs vals) :
    Calls P f vals.toArray W fun e W' => e = .returned (.bool true) ∧ Below W.heap.size W W' := by
  have hrs : RS W (Low W) (fun _ => .unborn) [] :=
    ⟨(fun r x h => by simp [look] at h), (fun _ _ => .inr rfl), (fun r r' g n q n' q' (e : Loc.unborn = _) _ => by cases e), (fun r g n q (e : Loc.unborn = _) => by cases e), (fun b hb => hb), gl.im, gl.gw⟩
  refine ((h W (Low W) (fun _ => .unborn) vals hrs hv (fun _ _ => rfl)).fn hfb).mono ?_
  rintro e W' ⟨v, Im', ρ', rfl, _, hr, hk, _⟩
  obtain rfl := hr
  refine ⟨rfl, ⟨hk.os, hk.tape, hk.output, hk.size, fun b hb => hk.blk b hb ?_⟩⟩
  rintro ⟨r, n, q, e⟩
  cases e
end Go.Proofs.YtfogafinohfpfaaGreatDoorV
