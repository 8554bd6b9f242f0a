/- The parser over tokens that agree so far: expressions (printed by wip/pure/parx_gen.py). -/
import Derived.Test.YtfbnofpfinenkaaDoorPParS
namespace Go.Proofs.YtfbnofpfinenkaaDoorV
set_option linter.unusedVariables false
set_option linter.unusedSimpArgs false

abbrev NodeT := Int × ByteArray × Int × Int × (List Node) × (List ByteArray) × Int
def ND (y : NodeT) : Node := .mk y.1 y.2.1 y.2.2.1 y.2.2.2.1 y.2.2.2.2.1 y.2.2.2.2.2.1
/-- The same tree but for places; behind it the same place. -/
def RN (off p : Int) (y y' : NodeT) : Prop := NE (y.2.2.2.2.2.2 - p).toNat (ND y) (ND y') ∧ y'.2.2.2.2.2.2 = y.2.2.2.2.2.2 + off
/-- What comes of a reading from p on; over the other tokens, too, as long as they agree. -/
def PE {A : Type} (L L' : List Tok) (m off : Int) (F : Int → List Tok → Option (A ⊕ NodeT)) (p : Int) (y : NodeT) : Prop :=
  p < y.2.2.2.2.2.2 ∧ y.2.2.2.2.2.2 < L.length ∧ (y.2.2.2.2.2.2 < m → ∃ y', F (p + off) L' = some (.inr y') ∧ RN off p y y')

section
variable (N : Nat) (hN : 20030 < N) {L L' : List Tok} {S m off : Int} (hG : GL' L S) (hA : Ag L L' m off)
include hN hG hA

theorem primaryR {er : Int → Int → List Tok → Option ((Int × Int × Int) ⊕ NodeT)} {d p : Int} (hd0 : 0 ≤ d) (hd : d ≤ 60) (hE : ∀ (d' p : Int), d < d' → d' ≤ 61 → 0 ≤ p → p < L.length → OS2 (er d' p L) (fun y => 0 ≤ y.1 ∧ y.1 ≤ S ∧ (y.2.1 = 100 ∨ y.2.1 = 150)) (PE L L' m off (er d') p)) (hp0 : 0 ≤ p) (hp : p < L.length) :
    OS2 (parse_parser_primary N er d p L) (fun y => 0 ≤ y.1 ∧ y.1 ≤ S ∧ (y.2.1 = 100 ∨ y.2.1 = 150)) (PE L L' m off (parse_parser_primary N er d) p) := by
  have hlen := hG.len
  have hlen' := hA.len
  have hrm := hA.room
  have ho := hA.off0
  have e1 : IntKind.i64.wrap (d + 1) = d + 1 := i64_in (by omega)
  refine OS2.of ?_
  refine TS.call (tokR N hG hA hp0 hp) (fun t ht => ?_)
  dsimp only
  refine TS.br (fun hc => ?_) (fun hc => ?_)
  · have hk : t.1 ≠ 0 := by simp at hc; omega
    have hk2 := ht.2.2.2.1 hk
    obtain ⟨y, hy, _⟩ := number_ok N hN _ ht.2.2.1
    refine TS.call (P := fun x => x = y) ⟨y, hy, rfl⟩ (fun x hx => ?_)
    subst hx
    refine TS.br (fun _ => ?_) (fun h4 => ?_)
    · exact TS.call (fail_ok N hG hp0 hp) (fun z hz => TS.ret (by dsimp only; omega))
    · have j8 : ∀ q : Int, 0 ≤ q → q ≤ 4001 → parse_parser_primary_j8 N er q = some (q + 1) := fun q h1 h2 => by
        simp only [parse_parser_primary_j8, parse_parser_primary_j8_T, run_ret]; rw [i64_in (by omega)]
      cases h0 : (x.2 != 0) with
      | true =>
        obtain ⟨f, hf, hf2⟩ := fail_ok N hG hp0 hp
        have hj : parse_parser_primary_j6 N er x.2 p L = some (.inl f) := by
          simp only [parse_parser_primary_j6, parse_parser_primary_j6_T, run_br, h0, if_true, run_call, hf, Option.bind_some, run_ret]
        exact TS.callS (PA := fun y => 0 ≤ y ∧ y ≤ S) (PB := fun _ => False) (.inl ⟨f, hj, hf2⟩) (fun a ha => TS.ret (by dsimp only; omega)) (fun b hb => hb.elim)
      | false =>
        have hj : ∀ (q : Int) (M : List Tok), 0 ≤ q → q ≤ 4001 → parse_parser_primary_j6 N er x.2 q M = some (.inr (q + 1)) := fun q M h1 h2 => by
          simp only [parse_parser_primary_j6, parse_parser_primary_j6_T, run_br, h0, Bool.false_eq_true, if_false, run_call, j8 q h1 h2, Option.bind_some, run_ret]
        refine TS.callS (PA := fun _ => False) (PB := fun q => q = p + 1) (.inr ⟨_, hj p L hp0 (by omega), rfl⟩) (fun a ha => ha.elim) (fun b hb => TS.ret ?_)
        subst hb
        refine ⟨by show p < p + 1; omega, hk2, fun hm => ?_⟩
        have hm' : p + 1 < m := hm
        obtain ⟨a, ha⟩ := ht.2.2.2.2 (by omega)
        refine ⟨(0, ByteArray.empty, x.1, a, [], [], p + off + 1), ?_, ?_, ?_⟩
        · simp only [parse_parser_primary, parse_parser_primary_T, run_br, run_call, run_ret, run_inr, ha, Option.bind_some, hc, if_true, hy, h4, Bool.false_eq_true, if_false, hj (p + off) L' (by omega) (by omega)]
        · have : (p + 1 - p).toNat = 0 + 1 := by omega
          show NE (p + 1 - p).toNat _ _
          rw [this]
          exact .mk .nil (by simp) (by simp)
        · show p + off + 1 = p + 1 + off; omega
  · refine TS.call (goesR N hN hG hA (by simp) hp0 hp) (fun y hy => ?_)
    refine TS.br (fun hc2 => ?_) (fun hc2 => ?_)
    · have hy1 := hy.2.2.1 hc2
      rw [e1]
      refine TS.callS (hE (d + 1) _ (by omega) (by omega) (by omega) hy.2.1) (fun a ha => TS.ret ha) (fun b hb => ?_)
      obtain ⟨hb1, hb2, hb3⟩ := hb
      refine TS.callS (mustR N hN hG hA (by omega) (by omega)) (fun a ha => TS.ret (by dsimp only; omega)) (fun c hc3 => TS.ret ⟨?_, hc3.2.1, fun hm => ?_⟩)
      · show p < c; omega
      have hm' : c < m := hm
      obtain ⟨a, ha⟩ := ht.2.2.2.2 (by omega)
      have f1 := hy.2.2.2 (by omega)
      obtain ⟨y', f2, f3, f4⟩ := hb3 (by omega)
      have f5 := hc3.2.2 (by omega)
      have f4' : y'.2.2.2.2.2.2 = b.2.2.2.2.2.2 + off := f4
      refine ⟨(y'.1, y'.2.1, y'.2.2.1, a, y'.2.2.2.2.1, y'.2.2.2.2.2.1, c + off), ?_, ?_, rfl⟩
      · simp only [parse_parser_primary, parse_parser_primary_T, run_br, run_call, run_ret, run_inr, ha, Option.bind_some, hc, if_true, Bool.false_eq_true, if_false, f1, hc2, e1, f2, f4', f5]
      · refine NE.mono (NE.place (a := b.2.2.2.1) (a' := y'.2.2.2.1) f3) ?_
        show (b.2.2.2.2.2.2 - y.2).toNat ≤ (c - p).toNat
        omega
    · refine TS.callS (nameR N hG hA (by omega) hy.2.1) (fun a ha => TS.ret (by dsimp only; omega)) (fun b hb => ?_)
      refine TS.call (P := fun _ => True) ⟨(), rfl, trivial⟩ (fun _ _ => ?_)
      refine TS.call (goesR N hN hG hA (by simp) (by omega) hb.2.1) (fun z hz => ?_)
      have nodeq : parse_node N = some () := rfl
      refine TS.br (fun hc3 => ?_) (fun hc3 => ?_)
      · have hz1 := hz.2.2.1 hc3
        rw [e1]
        refine TS.callS (hE (d + 1) _ (by omega) (by omega) (by omega) hz.2.1) (fun a ha => TS.ret ha) (fun c hc4 => ?_)
        obtain ⟨hc1, hc5, hc6⟩ := hc4
        have hloop := loop_rel (s := fun v => parse_parser_primary_l19_T N er d L v.1 v.2) (s' := fun v => parse_parser_primary_l19_T N er d L' v.1 v.2) (fun v : Int × List Node => p + 2 < v.1 ∧ v.1 < (L.length : Int) ∧ (v.2.length : Int) ≤ v.1) (fun v => ((L.length : Int) - v.1).toNat)
          (fun r : (Int × Int × Int) ⊕ (Int × List Node) => match r with | .inl y => 0 ≤ y.1 ∧ y.1 ≤ S ∧ (y.2.1 = 100 ∨ y.2.1 = 150) | .inr y => p + 2 < y.1 ∧ y.1 < (L.length : Int) ∧ (y.2.length : Int) ≤ y.1) (fun v => v.1) m (fun r => match r with | .inl _ => False | .inr y => y.1 < m)
          (fun x x' => x'.1 = x.1 + off ∧ NEs (x.1 - p - 1).toNat x.2 x'.2) (fun y y' => match y with | .inl _ => False | .inr y => ∃ l', y' = .inr (y.1 + off, l') ∧ NEs (y.1 - p - 1).toNat y.2 l') ?_ N (c.2.2.2.2.2.2, [.mk c.1 c.2.1 c.2.2.1 c.2.2.2.1 c.2.2.2.2.1 c.2.2.2.2.2.1]) ⟨by dsimp only; omega, hc5, by dsimp only; simp; omega⟩ (by dsimp only; omega)
        · obtain ⟨r, hr, hq, hg⟩ := hloop
          refine TS.call (P := fun x => x = r) ⟨r, hr, rfl⟩ (fun x hx => ?_)
          subst hx
          cases x with
          | inl a => exact TS.ret hq
          | inr e =>
            refine TS.callS (mustR N hN hG hA (by omega) (by omega)) (fun a ha => TS.ret (by dsimp only; omega)) (fun f hf => TS.ret ⟨?_, hf.2.1, fun hm => ?_⟩)
            · show p < f; omega
            have hm' : f < m := hm
            obtain ⟨g1, g2⟩ := hg (by dsimp only; omega)
            dsimp only at g1
            obtain ⟨a, ha⟩ := ht.2.2.2.2 (by omega)
            have f1 := hy.2.2.2 (by omega)
            have f2 := hb.2.2 (by omega)
            have f3 := hz.2.2.2 (by omega)
            obtain ⟨y', f4, f5, f6⟩ := hc6 (by omega)
            have f6' : y'.2.2.2.2.2.2 = c.2.2.2.2.2.2 + off := f6
            have hn1 : NEs (c.2.2.2.2.2.2 - p - 1).toNat [ND c] [ND y'] := .cons (NE.mono f5 (by show (c.2.2.2.2.2.2 - z.2).toNat ≤ _; omega)) .nil
            obtain ⟨w, g3, l', rfl, g5⟩ := g2 N (c.2.2.2.2.2.2 + off, [ND y']) (by dsimp only; omega) ⟨rfl, hn1⟩
            have g3' : parse_parser_primary_l19 N er d L' (c.2.2.2.2.2.2 + off, [.mk y'.1 y'.2.1 y'.2.2.1 y'.2.2.2.1 y'.2.2.2.2.1 y'.2.2.2.2.2.1]) = some (.inr (e.1 + off, l')) := g3
            have f7 := hf.2.2 (by omega)
            refine ⟨(5, b.1, 0, a, l', [], f + off), ?_, ?_, rfl⟩
            · simp only [parse_parser_primary, parse_parser_primary_T, run_br, run_call, run_ret, run_inr, ha, Option.bind_some, hc, hc2, if_true, Bool.false_eq_true, if_false, f1, f2, nodeq, f3, hc3, e1, f4, f6', g3', f7]
            · have : (f - p).toNat = (f - p - 1).toNat + 1 := by omega
              show NE (f - p).toNat _ _
              rw [this]
              exact .mk (NEs.mono g5 (by omega)) (by show e.2.length ≤ 5000; have := hq.2.2; have := hq.2.1; omega) (by simp)
        · intro v hv
          refine TS.call (goesR N hN hG hA (by simp) (by omega) hv.2.1) (fun y hy => ?_)
          refine TS.br (fun hc => ?_) (fun hc => ?_)
          · have hy1 := hy.2.2.1 hc
            dsimp only
            rw [e1]
            refine TS.callS (hE (d + 1) _ (by omega) (by omega) (by omega) hy.2.1) (fun a ha => TS.ret ⟨ha, fun h => h.elim⟩) (fun b hb => ?_)
            obtain ⟨hb1, hb2, hb3⟩ := hb
            have hgd : ltI (((v.2.length : Int) + 1) * 88) 140737488355328 = true := by rw [ltI_iff]; omega
            refine TS.brT hgd (TS.ret ⟨?_, by dsimp only; omega, by dsimp only; omega, fun hm x' hx => ?_⟩)
            · dsimp only
              simp only [List.length_append, List.length_singleton]
              omega
            · obtain ⟨hx1, hx2⟩ := hx
              dsimp only at hm
              have h1 := hy.2.2.2 (by omega)
              obtain ⟨y', h2, h3, h4⟩ := hb3 (by omega)
              have h4' : y'.2.2.2.2.2.2 = b.2.2.2.2.2.2 + off := h4
              have hl := hx2.len
              have hgd' : ltI (((x'.2.length : Int) + 1) * 88) 140737488355328 = true := by rw [hl]; exact hgd
              refine ⟨(b.2.2.2.2.2.2 + off, x'.2 ++ [ND y']), ?_, rfl, ?_⟩
              · simp only [parse_parser_primary_l19_T, run_call, hx1, h1, Option.bind_some, run_br, hc, if_true, e1, h2, run_inr, run_ret, hgd', h4', ND]
              · exact NEs.app (NEs.mono hx2 (by dsimp only; omega)) (.cons (NE.mono h3 (by show (b.2.2.2.2.2.2 - y.2).toNat ≤ _; dsimp only; omega)) .nil)
          · refine TS.ret ⟨⟨by dsimp only; omega, hy.2.1, by dsimp only; omega⟩, fun hm => ?_⟩
            dsimp only at hm
            refine ⟨by omega, fun x' hx => ?_⟩
            obtain ⟨hx1, hx2⟩ := hx
            have h1 := hy.2.2.2 (by omega)
            refine ⟨.inr (y.2 + off, x'.2), ?_, _, rfl, NEs.mono hx2 (by dsimp only; omega)⟩
            simp only [parse_parser_primary_l19_T, run_call, hx1, h1, Option.bind_some, run_br, hc, Bool.false_eq_true, if_false, run_ret]
      · refine TS.ret ⟨?_, hz.2.1, fun hm => ?_⟩
        · show p < z.2; omega
        have hm' : z.2 < m := hm
        obtain ⟨a, ha⟩ := ht.2.2.2.2 (by omega)
        have f1 := hy.2.2.2 (by omega)
        have f2 := hb.2.2 (by omega)
        have f3 := hz.2.2.2 (by omega)
        refine ⟨(1, b.1, 0, a, [], [], z.2 + off), ?_, ?_, rfl⟩
        · simp only [parse_parser_primary, parse_parser_primary_T, run_br, run_call, run_ret, run_inr, ha, Option.bind_some, hc, hc2, hc3, Bool.false_eq_true, if_false, f1, f2, nodeq, f3]
        · have : (z.2 - p).toNat = (z.2 - p - 1).toNat + 1 := by omega
          show NE (z.2 - p).toNat _ _
          rw [this]
          exact .mk .nil (by simp) (by simp)

theorem unaryR {er : Int → Int → List Tok → Option ((Int × Int × Int) ⊕ NodeT)} {d0 : Int} (hE0 : ∀ (d' p : Int), d0 < d' → d' ≤ 61 → 0 ≤ p → p < L.length → OS2 (er d' p L) (fun y => 0 ≤ y.1 ∧ y.1 ≤ S ∧ (y.2.1 = 100 ∨ y.2.1 = 150)) (PE L L' m off (er d') p)) (hd0 : 0 ≤ d0) :
    ∀ (k : Nat) (d p : Int), d0 ≤ d → d ≤ 61 → 62 - d ≤ k → 0 ≤ p → p < L.length → OS2 (parse_parser_unary_R N er k d p L) (fun y => 0 ≤ y.1 ∧ y.1 ≤ S ∧ (y.2.1 = 100 ∨ y.2.1 = 150)) (PE L L' m off (parse_parser_unary_R N er k d) p)
  | 0, d, p, h1, h2, h3, _, _ => by omega
  | k + 1, d, p, h1, h2, h3, hp0, hp => by
    have hlen := hG.len
    have hrm := hA.room
    have ho := hA.off0
    refine OS2.of ?_
    refine TS.callS (deep_ok N hG hp0 hp) (fun a ha => TS.ret (by dsimp only; omega)) (fun b hb => ?_)
    have hdeep : parse_parser_deep N d (p + off) L' = some (.inr ()) := deepR N hb
    have e1 : IntKind.i64.wrap (d + 1) = d + 1 := i64_in (by omega)
    refine TS.call (tokR N hG hA hp0 hp) (fun t ht => ?_)
    refine TS.call (goesR N hN hG hA (by simp) hp0 hp) (fun y hy => ?_)
    refine TS.br (fun hc => ?_) (fun hc => ?_)
    · have := hy.2.2.1 hc
      dsimp only
      rw [e1]
      refine TS.callS (unaryR hE0 hd0 k (d + 1) y.2 (by omega) (by omega) (by omega) (by omega) hy.2.1) (fun a ha => TS.ret ha) (fun c hc2 => ?_)
      obtain ⟨c1, c2, c3⟩ := hc2
      refine TS.call (P := fun _ => True) ⟨(), rfl, trivial⟩ (fun _ _ => TS.ret ⟨?_, c2, fun hm => ?_⟩)
      · show p < c.2.2.2.2.2.2; omega
      have hm' : c.2.2.2.2.2.2 < m := hm
      obtain ⟨a, ha⟩ := ht.2.2.2.2 (by omega)
      have f1 := hy.2.2.2 (by omega)
      obtain ⟨y', f2, f3, f4⟩ := c3 (by omega)
      have nodeq : parse_node_2 N = some () := rfl
      refine ⟨(2, t.2.1, 0, a, [ND y'], [], c.2.2.2.2.2.2 + off), ?_, ?_, rfl⟩
      · simp only [parse_parser_unary_R, parse_parser_unary_T, run_br, run_call, run_ret, run_inr, hdeep, ha, Option.bind_some, hc, if_true, f1, e1, f2, nodeq, f4, ND]
      · have e : (c.2.2.2.2.2.2 - p).toNat = (c.2.2.2.2.2.2 - p - 1).toNat + 1 := by omega
        show NE (c.2.2.2.2.2.2 - p).toNat _ _
        rw [e]
        exact .mk (.cons (NE.mono f3 (by omega)) .nil) (by show 1 ≤ 5000; omega) (by simp)
    · refine TS.callS (primaryR N hN hG hA (by omega) hb (fun d' p h4 h5 h6 h7 => hE0 d' p (by omega) h5 h6 h7) (by omega) hy.2.1) (fun a ha => TS.ret ha) (fun c hc2 => ?_)
      obtain ⟨c1, c2, c3⟩ := hc2
      refine TS.ret ⟨?_, c2, fun hm => ?_⟩
      · show p < c.2.2.2.2.2.2; omega
      have hm' : c.2.2.2.2.2.2 < m := hm
      obtain ⟨a, ha⟩ := ht.2.2.2.2 (by omega)
      have f1 := hy.2.2.2 (by omega)
      obtain ⟨y', f2, f3, f4⟩ := c3 (by omega)
      refine ⟨y', ?_, NE.mono f3 ?_, f4⟩
      · simp only [parse_parser_unary_R, parse_parser_unary_T, run_br, run_call, run_ret, run_inr, hdeep, ha, Option.bind_some, hc, Bool.false_eq_true, if_false, f1, f2]
      · show (c.2.2.2.2.2.2 - y.2).toNat ≤ (c.2.2.2.2.2.2 - p).toNat
        omega

theorem levelR {er : Int → Int → List Tok → Option ((Int × Int × Int) ⊕ NodeT)} {d : Int} (hE : ∀ (d' p : Int), d < d' → d' ≤ 61 → 0 ≤ p → p < L.length → OS2 (er d' p L) (fun y => 0 ≤ y.1 ∧ y.1 ≤ S ∧ (y.2.1 = 100 ∨ y.2.1 = 150)) (PE L L' m off (er d') p)) (hd0 : 0 ≤ d) (hd : d ≤ 60) :
    ∀ (k : Nat) (n p : Int), 0 ≤ n → n ≤ 5 → 6 - n ≤ k → 0 ≤ p → p < L.length → OS2 (parse_parser_level_R N er k n d p L) (fun y => 0 ≤ y.1 ∧ y.1 ≤ S ∧ (y.2.1 = 100 ∨ y.2.1 = 150)) (PE L L' m off (parse_parser_level_R N er k n d) p)
  | 0, n, p, h1, h2, h3, _, _ => by omega
  | k + 1, n, p, h1, h2, h3, hp0, hp => by
    have hlen := hG.len
    have hrm := hA.room
    have ho := hA.off0
    have hlen' := hA.len
    have e1 : IntKind.i64.wrap (n + 1) = n + 1 := i64_in (by omega)
    refine OS2.of ?_
    refine TS.br (fun hc => ?_) (fun hc => ?_)
    · refine TS.callS (unaryR N hN hG hA hE hd0 N d p (Int.le_refl _) (by omega) (by omega) hp0 hp) (fun a ha => TS.ret ha) (fun c hc2 => TS.ret ⟨hc2.1, hc2.2.1, fun hm => ?_⟩)
      obtain ⟨y', f2, f3⟩ := hc2.2.2 hm
      refine ⟨y', ?_, f3⟩
      have f2' : parse_parser_unary N er d (p + off) L' = some (.inr y') := f2
      simp only [parse_parser_level_R, parse_parser_level_T, run_br, run_call, run_ret, run_inr, hc, if_true, f2', Option.bind_some]
    · have hn : n ≠ 5 := by simpa using hc
      dsimp only
      rw [e1]
      refine TS.callS (levelR hE hd0 hd k (n + 1) p (by omega) (by omega) (by omega) hp0 hp) (fun a ha => TS.ret ha) (fun b hb => ?_)
      obtain ⟨b1, b2, b3⟩ := hb
      have hj10 : ∀ (q : Int) (X : Node), p < q → q < L.length → OS2 (parse_parser_level_j10 N er (parse_parser_level_R N er k) n d q X.k X.s X.n X.a X.l X.p L) (fun y => 0 ≤ y.1 ∧ y.1 ≤ S ∧ (y.2.1 = 100 ∨ y.2.1 = 150)) (fun y => q < y.1 ∧ y.1 < L.length ∧ (y.1 < m → ∀ X' : Node, NE (q - p - 1).toNat X X' → ∃ l', parse_parser_level_j10 N er (parse_parser_level_R N er k) n d (q + off) X'.k X'.s X'.n X'.a X'.l X'.p L' = some (.inr (y.1 + off, l')) ∧ NEs (y.1 - p - 1).toNat y.2 l') ∧ y.2.length = 2) := by
        intro q X hq1 hq2
        cases X with
        | mk x1 x2 x3 x4 x5 x6 =>
        refine OS2.of ?_
        dsimp only [parse_parser_level_j10_T]
        rw [e1]
        refine TS.callS (levelR hE hd0 hd k (n + 1) q (by omega) (by omega) (by omega) (by omega) hq2) (fun a ha => TS.ret ha) (fun c hc2 => ?_)
        obtain ⟨c1, c2, c3⟩ := hc2
        refine TS.call (P := fun _ => True) ⟨(), rfl, trivial⟩ (fun _ _ => TS.ret ⟨c1, c2, fun hm X' hX => ?_, rfl⟩)
        obtain ⟨y', f2, f3, f4⟩ := c3 hm
        cases X' with
        | mk z1 z2 z3 z4 z5 z6 =>
        have nodeq : parse_node_3 N = some () := rfl
        refine ⟨[.mk z1 z2 z3 z4 z5 z6, ND y'], ?_, ?_⟩
        · simp only [parse_parser_level_j10, parse_parser_level_j10_T, run_call, run_inr, run_ret, e1, f2, Option.bind_some, nodeq, f4]
          rfl
        · refine .cons ?_ (.cons (NE.mono f3 ?_) .nil)
          · have := NE.mono hX (show (q - p - 1).toNat ≤ (c.2.2.2.2.2.2 - p - 1).toNat by omega)
            exact this
          · show (c.2.2.2.2.2.2 - q).toNat ≤ (c.2.2.2.2.2.2 - p - 1).toNat
            omega
      have hj7 : ∀ (q : Int) (X : Node), p < q → q < L.length → OS2 (parse_parser_level_j7 N er (parse_parser_level_R N er k) n d q X.k X.s X.n X.a X.l X.p L) (fun y => 0 ≤ y.1 ∧ y.1 ≤ S ∧ (y.2.1 = 100 ∨ y.2.1 = 150)) (fun y => q < y.1 ∧ y.1 < L.length ∧ (y.1 < m → ∀ X' : Node, NE (q - p - 1).toNat X X' → ∃ l', parse_parser_level_j7 N er (parse_parser_level_R N er k) n d (q + off) X'.k X'.s X'.n X'.a X'.l X'.p L' = some (.inr (y.1 + off, y.2.1, l')) ∧ NEs (y.1 - p - 1).toNat y.2.2 l') ∧ y.2.2.length = 2) := by
        intro q X hq1 hq2
        refine OS2.of ?_
        refine TS.br (fun hc3 => ?_) (fun hc3 => ?_)
        · refine TS.callS (hj10 q X hq1 hq2) (fun a ha => TS.ret ha) (fun c hc2 => TS.ret ⟨hc2.1, hc2.2.1, fun hm X' hX => ?_, hc2.2.2.2⟩)
          obtain ⟨l', f1, f2⟩ := hc2.2.2.1 hm X' hX
          refine ⟨l', ?_, f2⟩
          simp only [parse_parser_level_j7, parse_parser_level_j7_T, run_br, run_call, run_inr, run_ret, hc3, if_true, f1, Option.bind_some]
        · refine TS.callS (hj10 q X hq1 hq2) (fun a ha => TS.ret ha) (fun c hc2 => TS.ret ⟨hc2.1, hc2.2.1, fun hm X' hX => ?_, hc2.2.2.2⟩)
          obtain ⟨l', f1, f2⟩ := hc2.2.2.1 hm X' hX
          refine ⟨l', ?_, f2⟩
          simp only [parse_parser_level_j7, parse_parser_level_j7_T, run_br, run_call, run_inr, run_ret, hc3, Bool.false_eq_true, if_false, f1, Option.bind_some]
      have hgs : inRange n 5 = true := by rw [inRange_iff]; omega
      let W := Int × Int × ByteArray × Int × (List Node) × (List ByteArray)
      let NW : Int → W → Node := fun a v => .mk v.2.1 v.2.2.1 v.2.2.2.1 a v.2.2.2.2.1 v.2.2.2.2.2
      have hloop := fun (at1 at2 : Int) (v0 : W) (h4 : p < v0.1) (h5 : v0.1 < (L.length : Int)) => loop_rel (s := fun v : W => parse_parser_level_l4_T N er (parse_parser_level_R N er k) n d at1 L v.1 v.2.1 v.2.2.1 v.2.2.2.1 v.2.2.2.2.1 v.2.2.2.2.2) (s' := fun v : W => parse_parser_level_l4_T N er (parse_parser_level_R N er k) n d at2 L' v.1 v.2.1 v.2.2.1 v.2.2.2.1 v.2.2.2.2.1 v.2.2.2.2.2) (fun v : W => p < v.1 ∧ v.1 < (L.length : Int)) (fun v => ((L.length : Int) - v.1).toNat)
        (fun r : W ⊕ (Int × Int × Int) => match r with | .inr y => 0 ≤ y.1 ∧ y.1 ≤ S ∧ (y.2.1 = 100 ∨ y.2.1 = 150) | .inl y => p < y.1 ∧ y.1 < (L.length : Int)) (fun v => v.1) m (fun r => match r with | .inr _ => False | .inl y => y.1 < m)
        (fun x x' : W => x'.1 = x.1 + off ∧ NE (x.1 - p).toNat (NW at1 x) (NW at2 x')) (fun y y' => match y with | .inr _ => False | .inl y => ∃ w : W, y' = .inl w ∧ w.1 = y.1 + off ∧ NE (y.1 - p).toNat (NW at1 y) (NW at2 w)) ?_ N v0 ⟨h4, h5⟩ (by omega)
      · have hN0 := b3
        have hL := fun at2 => hloop b.2.2.2.1 at2 (b.2.2.2.2.2.2, b.1, b.2.1, b.2.2.1, b.2.2.2.2.1, b.2.2.2.2.2.1) b1 b2
        obtain ⟨r, hr, hq, _⟩ := hL 0
        refine TS.call (P := fun x => x = r) ⟨r, hr, rfl⟩ (fun x hx => ?_)
        subst hx
        cases x with
        | inr a => exact TS.ret hq
        | inl e =>
          refine TS.ret ⟨hq.1, hq.2, fun hm => ?_⟩
          have hm' : e.1 < m := hm
          obtain ⟨r2, hr2, _, hg0⟩ := hL 0
          have : r2 = .inl e := by rw [hr] at hr2; exact (Option.some.inj hr2).symm
          subst this
          obtain ⟨g1, _⟩ := hg0 hm'
          obtain ⟨y', f2, f3, f4⟩ := b3 g1
          obtain ⟨r3, hr3, _, hg1⟩ := hL y'.2.2.2.1
          have : r3 = .inl e := by rw [hr] at hr3; exact (Option.some.inj hr3).symm
          subst this
          obtain ⟨_, g2⟩ := hg1 hm'
          obtain ⟨w, g3, w', rfl, g5, g6⟩ := g2 N (y'.2.2.2.2.2.2, y'.1, y'.2.1, y'.2.2.1, y'.2.2.2.2.1, y'.2.2.2.2.2.1) (by dsimp only; omega) ⟨f4, f3⟩
          have g3' : parse_parser_level_l4 N er (parse_parser_level_R N er k) n d y'.2.2.2.1 L' (y'.2.2.2.2.2.2, y'.1, y'.2.1, y'.2.2.1, y'.2.2.2.2.1, y'.2.2.2.2.2.1) = some (.inl w') := g3
          refine ⟨(w'.2.1, w'.2.2.1, w'.2.2.2.1, y'.2.2.2.1, w'.2.2.2.2.1, w'.2.2.2.2.2, w'.1), ?_, g6, g5⟩
          simp only [parse_parser_level_R, parse_parser_level_T, run_br, run_call, run_ret, run_inr, run_inl, hc, Bool.false_eq_true, if_false, e1, f2, Option.bind_some, g3']
      · intro v hv
        refine TS.call (tokR N hG hA (by omega) hv.2) (fun t ht => ?_)
        have hgs3 : ∀ l : List ByteArray, l.length ≤ 100 → _ := fun l hl => goesR N hN hG hA hl (p := v.1) (by omega) hv.2
        refine TS.br (fun hc3 => TS.ret ⟨hv, fun hm => ?_⟩) (fun hc3 => ?_)
        · have hm' : v.1 < m := hm
          refine ⟨hm', fun x' hx => ?_⟩
          obtain ⟨hx1, hx2⟩ := hx
          obtain ⟨a, ha⟩ := ht.2.2.2.2 hm'
          refine ⟨.inl x', ?_, x', rfl, hx1, hx2⟩
          simp only [parse_parser_level_l4_T, run_call, hx1, ha, Option.bind_some, run_br, hc3, if_true, run_ret]
          rw [← hx1]
        · refine TS.brT hgs ?_
          refine TS.call (hgs3 _ (by simp)) (fun y hy => ?_)
          refine TS.br (fun hc4 => TS.ret ⟨⟨by dsimp only; omega, hy.2.1⟩, fun hm => ?_⟩) (fun hc4 => ?_)
          · have hm' : y.2 < m := hm
            refine ⟨by omega, fun x' hx => ?_⟩
            obtain ⟨hx1, hx2⟩ := hx
            obtain ⟨a, ha⟩ := ht.2.2.2.2 (by omega)
            have f1 := hy.2.2.2 (by omega)
            refine ⟨.inl (y.2 + off, x'.2), ?_, (y.2 + off, x'.2), rfl, rfl, NE.mono hx2 (by dsimp only; omega)⟩
            simp only [parse_parser_level_l4_T, run_call, hx1, ha, f1, Option.bind_some, run_br, hc3, hc4, hgs, if_true, Bool.false_eq_true, if_false, run_ret]
          · have hy1 : y.1 = true := by simpa using hc4
            have hy2 := hy.2.2.1 hy1
            refine TS.callS (hj7 y.2 (NW at1 v) (by omega) hy.2.1) (fun a ha => TS.ret ⟨ha, fun h => h.elim⟩) (fun c hc2 => TS.ret ⟨⟨by dsimp only; omega, hc2.2.1⟩, by dsimp only; omega, by dsimp only; omega, fun hm x' hx => ?_⟩)
            have hm' : c.1 < m := hm
            obtain ⟨hx1, hx2⟩ := hx
            obtain ⟨a, ha⟩ := ht.2.2.2.2 (by omega)
            have f1 := hy.2.2.2 (by omega)
            obtain ⟨l', f2, f3⟩ := hc2.2.2.1 hm' (NW at2 x') (NE.mono hx2 (by omega))
            have f2' : parse_parser_level_j7 N er (parse_parser_level_R N er k) n d (y.2 + off) x'.2.1 x'.2.2.1 x'.2.2.2.1 at2 x'.2.2.2.2.1 x'.2.2.2.2.2 L' = some (.inr (c.1 + off, c.2.1, l')) := f2
            refine ⟨(c.1 + off, c.2.1, t.2.1, 0, l', []), ?_, rfl, ?_⟩
            · simp only [parse_parser_level_l4_T, run_call, hx1, ha, f1, Option.bind_some, run_br, hc3, hc4, hgs, if_true, Bool.false_eq_true, if_false, run_ret, f2', run_inr]
            · have e : (c.1 - p).toNat = (c.1 - p - 1).toNat + 1 := by omega
              show NE (c.1 - p).toNat _ _
              rw [e]
              exact .mk f3 (by show c.2.2.length ≤ 5000; rw [hc2.2.2.2]; omega) (by simp)

theorem exprRR : ∀ (k : Nat) (d p : Int), 0 ≤ d → d ≤ 61 → 62 - d ≤ k → 0 ≤ p → p < L.length → OS2 (parse_parser_expr_R N k d p L) (fun y => 0 ≤ y.1 ∧ y.1 ≤ S ∧ (y.2.1 = 100 ∨ y.2.1 = 150)) (PE L L' m off (parse_parser_expr_R N k d) p)
  | 0, d, p, h1, h2, h3, _, _ => by omega
  | k + 1, d, p, h1, h2, h3, hp0, hp => by
    refine OS2.of ?_
    refine TS.callS (deep_ok N hG hp0 hp) (fun a ha => TS.ret (by dsimp only; omega)) (fun b hb => ?_)
    have hdeep : parse_parser_deep N d (p + off) L' = some (.inr ()) := deepR N hb
    refine TS.callS (levelR N hN hG hA (fun d' p h4 h5 h6 h7 => exprRR k d' p (by omega) h5 (by omega) h6 h7) h1 hb N 0 p (by omega) (by omega) (by omega) hp0 hp) (fun a ha => TS.ret ha) (fun c hc => TS.ret ⟨hc.1, hc.2.1, fun hm => ?_⟩)
    obtain ⟨y', f2, f3⟩ := hc.2.2 hm
    have f2' : parse_parser_level N (parse_parser_expr_R N k) 0 d (p + off) L' = some (.inr y') := f2
    refine ⟨y', ?_, f3⟩
    simp only [parse_parser_expr_R, parse_parser_expr_T, run_call, run_inr, run_ret, hdeep, f2', Option.bind_some]

theorem exprR {d p : Int} (hd0 : 0 ≤ d) (hd : d ≤ 61) (hp0 : 0 ≤ p) (hp : p < L.length) : OS2 (parse_parser_expr N d p L) (fun y => 0 ≤ y.1 ∧ y.1 ≤ S ∧ (y.2.1 = 100 ∨ y.2.1 = 150)) (PE L L' m off (parse_parser_expr N d) p) := exprRR N hN hG hA N d p hd0 hd (by omega) hp0 hp
end
end Go.Proofs.YtfbnofpfinenkaaDoorV
