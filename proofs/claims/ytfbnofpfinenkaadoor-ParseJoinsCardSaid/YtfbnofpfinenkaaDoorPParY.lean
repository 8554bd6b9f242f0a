/- The parser over tokens that agree so far: statements (printed by wip/pure/pary_gen.py). -/
import Derived.Test.YtfbnofpfinenkaaDoorPParX
namespace Go.Proofs.YtfbnofpfinenkaaDoorV
set_option linter.unusedVariables false
set_option linter.unusedSimpArgs false

abbrev InT := Int × ByteArray × Int × (List Node) × Int
abbrev StT := Int × ByteArray × Int × (List Node) × (List ByteArray) × Int
def PI {A : Type} (L L' : List Tok) (m off : Int) (F : Int → List Tok → Option (A ⊕ InT)) (p : Int) (y : InT) : Prop :=
  p < y.2.2.2.2 ∧ y.2.2.2.2 < L.length ∧ (y.2.2.2.2 ≤ m → ∃ y', F (p + off) L' = some (.inr y') ∧ NE (y.2.2.2.2 - p).toNat (.mk y.1 y.2.1 0 y.2.2.1 y.2.2.2.1 []) (.mk y'.1 y'.2.1 0 y'.2.2.1 y'.2.2.2.1 []) ∧ y'.2.2.2.2 = y.2.2.2.2 + off)
def PS {A : Type} (L L' : List Tok) (m off : Int) (F : Int → List Tok → Option (A ⊕ StT)) (p : Int) (y : StT) : Prop :=
  p < y.2.2.2.2.2 ∧ y.2.2.2.2.2 < L.length ∧ (y.2.2.2.2.2 ≤ m → ∃ y', F (p + off) L' = some (.inr y') ∧ NE (y.2.2.2.2.2 - p).toNat (.mk y.1 y.2.1 0 y.2.2.1 y.2.2.2.1 y.2.2.2.2.1) (.mk y'.1 y'.2.1 0 y'.2.2.1 y'.2.2.2.1 y'.2.2.2.2.1) ∧ y'.2.2.2.2.2 = y.2.2.2.2.2 + off)

section
variable (N : Nat) (hN : 20030 < N) {L L' : List Tok} {S m off : Int} (hG : GL' L S) (hA : Ag L L' m off)
include hN hG hA

theorem outputR {p : Int} (hp0 : 0 ≤ p) (hp : p < L.length) : OS2 (parse_parser_output N p L) (fun y => 0 ≤ y.1 ∧ y.1 ≤ S ∧ (y.2.1 = 100 ∨ y.2.1 = 150)) (fun y => p < y.2.2 ∧ y.2.2 < L.length ∧ y.2.1.length = 1 ∧ (y.2.2 ≤ m → ∃ l', parse_parser_output N (p + off) L' = some (.inr (y.1, l', y.2.2 + off)) ∧ NEs (y.2.2 - p - 1).toNat y.2.1 l')) := by
  refine OS2.of ?_
  refine TS.callS (nameR N hG hA hp0 hp) (fun a ha => TS.ret (by dsimp only; omega)) (fun b hb => ?_)
  refine TS.callS (mustR N hN hG hA (by omega) (by omega)) (fun a ha => TS.ret (by dsimp only; omega)) (fun c hc => ?_)
  refine TS.callS (exprR N hN hG hA (by omega) (by omega) (by omega) (by omega)) (fun a ha => TS.ret ha) (fun e he => ?_)
  obtain ⟨e1, e2, e3⟩ := he
  refine TS.callS (mustR N hN hG hA (by omega) (by omega)) (fun a ha => TS.ret (by dsimp only; omega)) (fun f hf => ?_)
  refine TS.call (P := fun _ => True) ⟨(), rfl, trivial⟩ (fun _ _ => TS.ret ⟨by show p < f; omega, hf.2.1, rfl, fun hm => ?_⟩)
  have hm' : f ≤ m := hm
  have f1 := hb.2.2 (by omega)
  have f2 := hc.2.2 (by omega)
  obtain ⟨y', f3, f4, f5⟩ := e3 (by omega)
  have f6 := hf.2.2 (by omega)
  have nodeq : parse_node_2 N = some () := rfl
  refine ⟨[ND y'], ?_, .cons (NE.mono f4 ?_) .nil⟩
  · simp only [parse_parser_output, parse_parser_output_T, run_call, run_inr, run_ret, f1, f2, f3, f5, f6, nodeq, Option.bind_some, ND]
  · show (e.2.2.2.2.2.2 - c).toNat ≤ (f - p - 1).toNat
    omega

theorem innerRR : ∀ (k : Nat) (d p : Int), 0 ≤ d → d ≤ 61 → 62 - d ≤ k → 0 ≤ p → p < L.length → OS2 (parse_parser_inner_R N k d p L) (fun y => 0 ≤ y.1 ∧ y.1 ≤ S ∧ (y.2.1 = 100 ∨ y.2.1 = 150)) (PI L L' m off (parse_parser_inner_R N k d) p)
  | 0, d, p, h1, h2, h3, _, _ => by omega
  | k + 1, d, p, h1, h2, h3, hp0, hp => by
    have hlen := hG.len
    have hlen' := hA.len
    have hrm := hA.room
    have ho := hA.off0
    have e1 : IntKind.i64.wrap (d + 1) = d + 1 := i64_in (by omega)
    have nodeq : parse_node_2 N = some () := rfl
    refine OS2.of ?_
    refine TS.call (tokR N hG hA hp0 hp) (fun t ht => ?_)
    refine TS.callS (deep_ok N hG hp0 hp) (fun a ha => TS.ret (by dsimp only; omega)) (fun b hb => ?_)
    have hdeep : parse_parser_deep N d (p + off) L' = some (.inr ()) := deepR N hb
    refine TS.call (goesR N hN hG hA (by simp) hp0 hp) (fun y hy => ?_)
    refine TS.br (fun hc => ?_) (fun hc => ?_)
    · have hy1 : y.1 = false := by simpa using hc
      refine TS.callS (nameR N hG hA (by omega) hy.2.1) (fun a ha => TS.ret (by dsimp only; omega)) (fun b hb => ?_)
      refine TS.callS (mustR N hN hG hA (by omega) (by omega)) (fun a ha => TS.ret (by dsimp only; omega)) (fun c hc => ?_)
      refine TS.callS (exprR N hN hG hA (by omega) (by omega) (by omega) (by omega)) (fun a ha => TS.ret ha) (fun e he => ?_)
      obtain ⟨g1, g2, g3⟩ := he
      refine TS.callS (mustR N hN hG hA (by omega) (by omega)) (fun a ha => TS.ret (by dsimp only; omega)) (fun f hf => ?_)
      refine TS.call (P := fun _ => True) ⟨(), rfl, trivial⟩ (fun _ _ => TS.ret ⟨by show p < f; omega, hf.2.1, fun hm => ?_⟩)
      have hm' : f ≤ m := hm
      obtain ⟨a, ha⟩ := ht.2.2.2.2 (by omega)
      have f0 := hy.2.2.2 (by omega)
      have f1 := hb.2.2 (by omega)
      have f2 := hc.2.2 (by omega)
      obtain ⟨y', f3, f4, f5⟩ := g3 (by omega)
      have f6 := hf.2.2 (by omega)
      refine ⟨(10, b.1, a, [ND y'], f + off), ?_, ?_, rfl⟩
      · simp only [parse_parser_inner_R, parse_parser_inner_T, run_br, run_call, run_inr, run_ret, ha, hdeep, f0, hy1, Bool.not_false, if_true, f1, f2, f3, f5, f6, nodeq, Option.bind_some, ND]
      · have ee : (f - p).toNat = (f - p - 1).toNat + 1 := by omega
        show NE (f - p).toNat _ _
        rw [ee]
        exact .mk (.cons (NE.mono f4 (by show (e.2.2.2.2.2.2 - c).toNat ≤ _; omega)) .nil) (by show 1 ≤ 5000; omega) (by simp)
    · have hy1 : y.1 = true := by simpa using hc
      have hy2 := hy.2.2.1 hy1
      refine TS.callS (nameR N hG hA (by omega) hy.2.1) (fun a ha => TS.ret (by dsimp only; omega)) (fun b hb => ?_)
      refine TS.callS (mustR N hN hG hA (by omega) (by omega)) (fun a ha => TS.ret (by dsimp only; omega)) (fun c hc => ?_)
      refine TS.callS (exprR N hN hG hA (by omega) (by omega) (by omega) (by omega)) (fun a ha => TS.ret ha) (fun e he => ?_)
      obtain ⟨g1, g2, g3⟩ := he
      refine TS.callS (mustR N hN hG hA (by omega) (by omega)) (fun a ha => TS.ret (by dsimp only; omega)) (fun f hf => ?_)
      refine TS.callS (exprR N hN hG hA (by omega) (by omega) (by omega) (by omega)) (fun a ha => TS.ret ha) (fun g hg => ?_)
      obtain ⟨i1, i2, i3⟩ := hg
      refine TS.call (P := fun _ => True) ⟨(), rfl, trivial⟩ (fun _ _ => ?_)
      refine TS.callS (mustR N hN hG hA (by omega) (by omega)) (fun a ha => TS.ret (by dsimp only; omega)) (fun q hq => ?_)
      have hloop := loop_rel (s := fun v => parse_parser_inner_l15_T N (parse_parser_inner_R N k) d L v.1 v.2) (s' := fun v => parse_parser_inner_l15_T N (parse_parser_inner_R N k) d L' v.1 v.2) (fun v : Int × List Node => p + 2 < v.1 ∧ v.1 < (L.length : Int) ∧ (v.2.length : Int) ≤ v.1) (fun v => ((L.length : Int) - v.1).toNat)
        (fun r : (Int × Int × Int) ⊕ (Int × List Node) => match r with | .inl y => 0 ≤ y.1 ∧ y.1 ≤ S ∧ (y.2.1 = 100 ∨ y.2.1 = 150) | .inr y => p + 2 < y.1 ∧ y.1 < (L.length : Int) ∧ (y.2.length : Int) ≤ y.1) (fun v => v.1) m (fun r => match r with | .inl _ => False | .inr y => y.1 ≤ m)
        (fun x x' => x'.1 = x.1 + off ∧ NEs (x.1 - p - 1).toNat x.2 x'.2) (fun y y' => match y with | .inl _ => False | .inr y => ∃ l', y' = .inr (y.1 + off, l') ∧ NEs (y.1 - p - 1).toNat y.2 l') ?_ N (q, [ND e, ND g]) ⟨by dsimp only; omega, hq.2.1, by dsimp only; simp; omega⟩ (by dsimp only; omega)
      · obtain ⟨r, hr, hrq, hrg⟩ := hloop
        refine TS.call (P := fun x => x = r) ⟨r, hr, rfl⟩ (fun x hx => ?_)
        subst hx
        cases x with
        | inl a => exact TS.ret hrq
        | inr z =>
          refine TS.ret ⟨?_, hrq.2.1, fun hm => ?_⟩
          · show p < z.1; have := hrq.1; omega
          have hm' : z.1 ≤ m := hm
          obtain ⟨j1, j2⟩ := hrg hm'
          dsimp only at j1
          obtain ⟨a, ha⟩ := ht.2.2.2.2 (by omega)
          have f0 := hy.2.2.2 (by omega)
          have f1 := hb.2.2 (by omega)
          have f2 := hc.2.2 (by omega)
          obtain ⟨y', f3, f4, f5⟩ := g3 (by omega)
          have f6 := hf.2.2 (by omega)
          obtain ⟨z', f7, f8, f9⟩ := i3 (by omega)
          have f10 := hq.2.2 (by omega)
          have hn1 : NEs (q - p - 1).toNat [ND e, ND g] [ND y', ND z'] := .cons (NE.mono f4 (by show (e.2.2.2.2.2.2 - c).toNat ≤ _; omega)) (.cons (NE.mono f8 (by show (g.2.2.2.2.2.2 - f).toNat ≤ _; omega)) .nil)
          obtain ⟨w, j3, l', rfl, j5⟩ := j2 N (q + off, [ND y', ND z']) (by dsimp only; omega) ⟨rfl, hn1⟩
          have j3' : parse_parser_inner_l15 N (parse_parser_inner_R N k) d L' (q + off, [.mk y'.1 y'.2.1 y'.2.2.1 y'.2.2.2.1 y'.2.2.2.2.1 y'.2.2.2.2.2.1, .mk z'.1 z'.2.1 z'.2.2.1 z'.2.2.2.1 z'.2.2.2.2.1 z'.2.2.2.2.2.1]) = some (.inr (z.1 + off, l')) := j3
          refine ⟨(11, b.1, a, l', z.1 + off), ?_, ?_, rfl⟩
          · simp only [parse_parser_inner_R, parse_parser_inner_T, run_br, run_call, run_inr, run_ret, ha, hdeep, f0, hy1, Bool.not_true, Bool.false_eq_true, if_false, f1, f2, f3, f5, f6, f7, f9, f10, nodeq, Option.bind_some, j3']
          · have hz := hrq.1
            have ee : (z.1 - p).toNat = (z.1 - p - 1).toNat + 1 := by omega
            show NE (z.1 - p).toNat _ _
            rw [ee]
            exact .mk j5 (by show z.2.length ≤ 5000; have := hrq.2.2; have := hrq.2.1; omega) (by simp)
      · intro v hv
        refine TS.call (goesR N hN hG hA (by simp) (by omega) hv.2.1) (fun y hy => ?_)
        refine TS.br (fun hc => ?_) (fun hc => ?_)
        · have hy1 : y.1 = false := by simpa using hc
          dsimp only
          rw [e1]
          refine TS.callS (innerRR k (d + 1) y.2 (by omega) (by omega) (by omega) (by omega) hy.2.1) (fun a ha => TS.ret ⟨ha, fun h => h.elim⟩) (fun b hb => ?_)
          obtain ⟨hb1, hb2, hb3⟩ := hb
          have hgd : ltI (((v.2.length : Int) + 1) * 88) 140737488355328 = true := by rw [ltI_iff]; omega
          refine TS.brT hgd (TS.ret ⟨?_, by dsimp only; omega, by dsimp only; omega, fun hm x' hx => ?_⟩)
          · dsimp only
            simp only [List.length_append, List.length_singleton]
            omega
          · obtain ⟨hx1, hx2⟩ := hx
            dsimp only at hm
            have h1 := hy.2.2.2 (by omega)
            obtain ⟨y', h2, h3, h4⟩ := hb3 (by omega)
            have hl := hx2.len
            have hgd' : ltI (((x'.2.length : Int) + 1) * 88) 140737488355328 = true := by rw [hl]; exact hgd
            refine ⟨(b.2.2.2.2 + off, x'.2 ++ [.mk y'.1 y'.2.1 0 y'.2.2.1 y'.2.2.2.1 []]), ?_, rfl, ?_⟩
            · simp only [parse_parser_inner_l15_T, run_call, hx1, h1, Option.bind_some, run_br, hy1, Bool.not_false, if_true, e1, h2, run_inr, run_ret, hgd', h4]
            · exact NEs.app (NEs.mono hx2 (by dsimp only; omega)) (.cons (NE.mono h3 (by dsimp only; omega)) .nil)
        · have hy1 : y.1 = true := by simpa using hc
          have hy2 := hy.2.2.1 hy1
          refine TS.ret ⟨⟨by dsimp only; omega, hy.2.1, by dsimp only; omega⟩, fun hm => ?_⟩
          dsimp only at hm
          refine ⟨by omega, fun x' hx => ?_⟩
          obtain ⟨hx1, hx2⟩ := hx
          have h1 := hy.2.2.2 (by omega)
          refine ⟨.inr (y.2 + off, x'.2), ?_, _, rfl, NEs.mono hx2 (by dsimp only; omega)⟩
          simp only [parse_parser_inner_l15_T, run_call, hx1, h1, Option.bind_some, run_br, hy1, Bool.not_true, Bool.false_eq_true, if_false, run_ret]

theorem innerR' {d p : Int} (hd0 : 0 ≤ d) (hd : d ≤ 61) (hp0 : 0 ≤ p) (hp : p < L.length) : OS2 (parse_parser_inner N d p L) (fun y => 0 ≤ y.1 ∧ y.1 ≤ S ∧ (y.2.1 = 100 ∨ y.2.1 = 150)) (PI L L' m off (parse_parser_inner N d) p) := innerRR N hN hG hA N d p hd0 hd (by omega) hp0 hp

theorem sj7R {p : Int} (hp0 : 0 ≤ p) (hp : p < L.length) : OS2 (parse_parser_stmt_j7 N p L) (fun y => 0 ≤ y.1 ∧ y.1 ≤ S) (fun y => p < y.1 ∧ y.1 < L.length ∧ (y.2.length : Int) ≤ y.1 ∧ (y.1 ≤ m → parse_parser_stmt_j7 N (p + off) L' = some (.inr (y.1 + off, y.2)))) := by
  refine OS2.of ?_
  refine TS.callS (namesR N hN hG hA hp0 hp) (fun a ha => TS.ret ha) (fun b hb => ?_)
  refine TS.callS (mustR N hN hG hA (by omega) (by omega)) (fun a ha => TS.ret ha) (fun c hc => TS.ret ⟨by dsimp only; omega, hc.2.1, by dsimp only; omega, fun hm => ?_⟩)
  have hm' : c ≤ m := hm
  have f1 := hb.2.2.2 (by omega)
  have f2 := hc.2.2 (by omega)
  simp only [parse_parser_stmt_j7, parse_parser_stmt_j7_T, run_call, run_inr, run_ret, f1, f2, Option.bind_some]

/-- What comes of a statement's head and what follows. -/
def PJ (L L' : List Tok) (m off : Int) (F : Int → List Tok → Option ((Int × Int × Int) ⊕ (Int × Int × ByteArray × (List ByteArray) × (List Node)) ⊕ (Int × Int × ByteArray × (List Node)) ⊕ Int)) (p : Int) : (Int × Int × ByteArray × (List ByteArray) × (List Node)) ⊕ (Int × Int × ByteArray × (List Node)) ⊕ Int → Prop
  | .inl y => p < y.1 ∧ y.1 < L.length ∧ y.2.2.2.1.length ≤ 5000 ∧ y.2.2.2.2.length ≤ 5000 ∧ (y.1 ≤ m → ∃ l', F (p + off) L' = some (.inr (.inl (y.1 + off, y.2.1, y.2.2.1, y.2.2.2.1, l'))) ∧ NEs (y.1 - p - 1).toNat y.2.2.2.2 l')
  | .inr (.inl y) => p < y.1 ∧ y.1 < L.length ∧ y.2.2.2.length ≤ 5000 ∧ (y.1 ≤ m → ∃ l', F (p + off) L' = some (.inr (.inr (.inl (y.1 + off, y.2.1, y.2.2.1, l')))) ∧ NEs (y.1 - p - 1).toNat y.2.2.2 l')
  | .inr (.inr q) => p ≤ q ∧ q < L.length ∧ (q < m → F (p + off) L' = some (.inr (.inr (.inr (q + off)))))

theorem sj4R {b : Bool} {p : Int} (hp0 : 0 ≤ p) (hp : p < L.length) (hb : b = true → 0 < p) : OS2 (parse_parser_stmt_j4 N b p L) (fun y => 0 ≤ y.1 ∧ y.1 ≤ S ∧ (y.2.1 = 100 ∨ y.2.1 = 150)) (PJ L L' m off (parse_parser_stmt_j4 N b) p) := by
  have hlen := hG.len
  have hlen' := hA.len
  have hrm := hA.room
  have ho := hA.off0
  have nodeq : parse_node N = some () := rfl
  refine OS2.of ?_
  refine TS.br (fun hc => ?_) (fun hc => ?_)
  · subst hc
    have h0 := hb rfl
    refine TS.call (P := fun _ => True) ⟨(), rfl, trivial⟩ (fun _ _ => ?_)
    have w1 : IntKind.i64.wrap (p - 1) = p - 1 := i64_in (by omega)
    have r1 : inRange (p - 1) L.length = true := by rw [inRange_iff]; omega
    dsimp only
    rw [w1]
    refine TS.brT r1 ?_
    have fin : ∀ (kk : Int) (e : ((L.getD (p - 1).toNat dt).2.1.toList == (⟨#[112, 117, 98, 108, 105, 99]⟩ : ByteArray).toList) = (kk == 7)), (kk = 7 ∨ kk = 6) → ∀ c : Int × List ByteArray, p < c.1 ∧ c.1 < L.length ∧ (c.2.length : Int) ≤ c.1 ∧ (c.1 ≤ m → parse_parser_stmt_j7 N (p + off) L' = some (.inr (c.1 + off, c.2))) → PJ L L' m off (parse_parser_stmt_j4 N true) p (.inl (c.1, kk, ByteArray.empty, c.2, [])) := by
      intro kk e hk c hcc
      refine ⟨hcc.1, hcc.2.1, by show c.2.length ≤ 5000; omega, by simp, fun hm => ⟨[], ?_, .nil⟩⟩
      have hm' : c.1 ≤ m := hm
      have w2 : IntKind.i64.wrap (p + off - 1) = p - 1 + off := by rw [i64_in (by omega)]; omega
      have r2 : inRange (p - 1 + off) L'.length = true := by rw [inRange_iff]; omega
      have hag := (hA.ag (p - 1) (by omega) (by omega)).2
      have hag' : ((L'.getD (p - 1 + off).toNat (0, (ByteArray.empty, 0))).2.1.toList == (⟨#[112, 117, 98, 108, 105, 99]⟩ : ByteArray).toList) = (kk == 7) := by
        show ((L'.getD (p - 1 + off).toNat dt).2.1.toList == _) = _
        rw [hag]; exact e
      have f1 := hcc.2.2.2 hm'
      simp only [parse_parser_stmt_j4, parse_parser_stmt_j4_T, run_br, run_call, run_inr, run_ret, if_true, nodeq, w2, r2, hag', f1, Option.bind_some]
      rcases hk with rfl | rfl <;> simp
    refine TS.br (fun hc => ?_) (fun hc => ?_)
    · exact TS.callS (sj7R N hN hG hA (by omega) (by omega)) (fun a ha => TS.ret (by dsimp only; omega)) (fun c hc2 => TS.ret (fin 7 hc (.inl rfl) c hc2))
    · exact TS.callS (sj7R N hN hG hA (by omega) (by omega)) (fun a ha => TS.ret (by dsimp only; omega)) (fun c hc2 => TS.ret (fin 6 hc (.inr rfl) c hc2))
  · subst hc
    refine TS.call (goesR N hN hG hA (by simp) hp0 hp) (fun y hy => ?_)
    refine TS.br (fun hc => ?_) (fun hc => ?_)
    · have hy1 := hy.2.2.1 hc
      refine TS.callS (outputR N hN hG hA (by omega) hy.2.1) (fun a ha => TS.ret ha) (fun c hc2 => TS.ret ⟨by show p < c.2.2; omega, hc2.2.1, by show c.2.1.length ≤ 5000; omega, fun hm => ?_⟩)
      have hm' : c.2.2 ≤ m := hm
      have f1 := hy.2.2.2 (by omega)
      obtain ⟨l', f2, f3⟩ := hc2.2.2.2 hm'
      refine ⟨l', ?_, NEs.mono f3 (by show _ ≤ (c.2.2 - p - 1).toNat; omega)⟩
      simp only [parse_parser_stmt_j4, parse_parser_stmt_j4_T, run_br, run_call, run_inr, run_ret, Bool.false_eq_true, if_false, if_true, f1, hc, f2, Option.bind_some]
    · refine TS.call (goesR N hN hG hA (by simp) (by omega) hy.2.1) (fun z hz => ?_)
      refine TS.br (fun hc3 => ?_) (fun hc3 => ?_)
      · have hz1 := hz.2.2.1 hc3
        refine TS.callS (outputR N hN hG hA (by omega) hz.2.1) (fun a ha => TS.ret ha) (fun c hc2 => TS.ret ⟨by show p < c.2.2; omega, hc2.2.1, by show c.2.1.length ≤ 5000; omega, fun hm => ?_⟩)
        have hm' : c.2.2 ≤ m := hm
        have f1 := hy.2.2.2 (by omega)
        have f0 := hz.2.2.2 (by omega)
        obtain ⟨l', f2, f3⟩ := hc2.2.2.2 hm'
        refine ⟨l', ?_, NEs.mono f3 (by show _ ≤ (c.2.2 - p - 1).toNat; omega)⟩
        simp only [parse_parser_stmt_j4, parse_parser_stmt_j4_T, run_br, run_call, run_inr, run_ret, Bool.false_eq_true, if_false, if_true, f1, f0, hc, hc3, f2, Option.bind_some]
      · refine TS.call (goesR N hN hG hA (by simp) (by omega) hz.2.1) (fun x hx => ?_)
        refine TS.br (fun hc4 => ?_) (fun hc4 => ?_)
        · have hx1 := hx.2.2.1 hc4
          refine TS.callS (nameR N hG hA (by omega) hx.2.1) (fun a ha => TS.ret (by dsimp only; omega)) (fun b hb => ?_)
          refine TS.call (P := fun _ => True) ⟨(), rfl, trivial⟩ (fun _ _ => ?_)
          refine TS.callS (mustR N hN hG hA (by omega) (by omega)) (fun a ha => TS.ret (by dsimp only; omega)) (fun c hc5 => ?_)
          refine TS.callS (namesR N hN hG hA (by omega) (by omega)) (fun a ha => TS.ret (by dsimp only; omega)) (fun f hf => ?_)
          refine TS.callS (mustR N hN hG hA (by omega) (by omega)) (fun a ha => TS.ret (by dsimp only; omega)) (fun g hg => ?_)
          refine TS.callS (mustR N hN hG hA (by omega) (by omega)) (fun a ha => TS.ret (by dsimp only; omega)) (fun i hi => ?_)
          refine TS.callS (exprR N hN hG hA (by omega) (by omega) (by omega) (by omega)) (fun a ha => TS.ret ha) (fun e he => ?_)
          obtain ⟨u1, u2, u3⟩ := he
          refine TS.callS (mustR N hN hG hA (by omega) (by omega)) (fun a ha => TS.ret (by dsimp only; omega)) (fun o hoo => TS.ret ⟨by show p < o; omega, hoo.2.1, by show f.1.length ≤ 5000; omega, by show 1 ≤ 5000; omega, fun hm => ?_⟩)
          have hm' : o ≤ m := hm
          have f1 := hy.2.2.2 (by omega)
          have f2 := hz.2.2.2 (by omega)
          have f3 := hx.2.2.2 (by omega)
          have f4 := hb.2.2 (by omega)
          have f5 := hc5.2.2 (by omega)
          have f6 := hf.2.2.2 (by omega)
          have f7 := hg.2.2 (by omega)
          have f8 := hi.2.2 (by omega)
          obtain ⟨y', f9, f10, f11⟩ := u3 (by omega)
          have f12 := hoo.2.2 (by omega)
          refine ⟨[ND y'], ?_, .cons (NE.mono f10 (by show (e.2.2.2.2.2.2 - i).toNat ≤ (o - p - 1).toNat; omega)) .nil⟩
          simp only [parse_parser_stmt_j4, parse_parser_stmt_j4_T, run_br, run_call, run_inr, run_ret, Bool.false_eq_true, if_false, if_true, f1, f2, f3, hc, hc3, hc4, f4, nodeq, f5, f6, f7, f8, f9, f11, f12, Option.bind_some, ND]
        · refine TS.ret ⟨by omega, hx.2.1, fun hm => ?_⟩
          have hm' : x.2 < m := hm
          have f1 := hy.2.2.2 (by omega)
          have f2 := hz.2.2.2 (by omega)
          have f3 := hx.2.2.2 (by omega)
          simp only [parse_parser_stmt_j4, parse_parser_stmt_j4_T, run_br, run_call, run_inr, run_ret, Bool.false_eq_true, if_false, f1, f2, f3, hc, hc3, hc4, Option.bind_some]
end
end Go.Proofs.YtfbnofpfinenkaaDoorV
