/- NL: what the functions come to (printed by wip/ext.py). -/
import Derived.Test.YtfogafinohfpfaaGreatDoorVL
namespace Go.Proofs.YtfogafinohfpfaaGreatDoorV
open Go.RowKit
set_option linter.unusedVariables false
set_option maxRecDepth 100000
/-! ### bauta/bautaref10.Parts -/
noncomputable def bautaref10_Parts_j7_T (N : Nat) (bautaref10_Parts_r : Int → ByteArray → Int → Int → (List Node) → (List ByteArray) → Int → Int → Option Int) (t1 : Int) (t2 : Int) (t7 : Int) (t8 : Int) (r0e : (List Node)) : Tree (Int × Int) :=
  .br (inRange t8 r0e.length) (
  let v1 : Node := (r0e.getD t8.toNat (Node.mk 0 ByteArray.empty 0 0 [] []))
  let v2 : Int := (IntKind.i64.wrap (t1 - 1))
  let v3 : Int := (IntKind.i64.wrap (t2 - t7))
  .call (bautaref10_Parts_r (Node.k v1) (Node.s v1) (Node.n v1) (Node.a v1) (Node.l v1) (Node.p v1) v2 v3) fun y4 => (
  let v5 : Int := (IntKind.i64.wrap (t7 + y4))
  let v6 : Int := (IntKind.i64.wrap (t8 + 1))
  .ret (v5, v6))) .fail
noncomputable def bautaref10_Parts_j7 (N : Nat) (bautaref10_Parts_r : Int → ByteArray → Int → Int → (List Node) → (List ByteArray) → Int → Int → Option Int) (t1 : Int) (t2 : Int) (t7 : Int) (t8 : Int) (r0e : (List Node)) : Option (Int × Int) := (bautaref10_Parts_j7_T N bautaref10_Parts_r t1 t2 t7 t8 r0e).run some
noncomputable def bautaref10_Parts_l5_T (N : Nat) (bautaref10_Parts_r : Int → ByteArray → Int → Int → (List Node) → (List ByteArray) → Int → Int → Option Int) (t1 : Int) (t2 : Int) (r0e : (List Node)) (t7 : Int) (t8 : Int) : Tree ((Int × Int) ⊕ Int) :=
  let v1 : Int := (r0e.length : Int)
  let v2 : Bool := (ltI t8 v1)
  .br v2 (
    let v3 : Bool := (leI t7 t2)
    .br v3 (
      .call (bautaref10_Parts_j7 N bautaref10_Parts_r t1 t2 t7 t8 r0e) fun y4 => (
      .ret (.inl (y4.1, y4.2)))) (
      .ret (.inr t7))) (
    .ret (.inr t7))
noncomputable def bautaref10_Parts_l5 (N : Nat) (bautaref10_Parts_r : Int → ByteArray → Int → Int → (List Node) → (List ByteArray) → Int → Int → Option Int) (t1 : Int) (t2 : Int) (r0e : (List Node)) (v : (Int × Int)) : Option Int := loopN (fun v => bautaref10_Parts_l5_T N bautaref10_Parts_r t1 t2 r0e v.1 v.2) N v
noncomputable def bautaref10_Parts_j3_T (N : Nat) (bautaref10_Parts_r : Int → ByteArray → Int → Int → (List Node) → (List ByteArray) → Int → Int → Option Int) (t1 : Int) (t2 : Int) (r0e : (List Node)) : Tree Int :=
  .call (bautaref10_Parts_l5 N bautaref10_Parts_r t1 t2 r0e (1, 0)) fun y1 => (
  .ret y1)
noncomputable def bautaref10_Parts_j3 (N : Nat) (bautaref10_Parts_r : Int → ByteArray → Int → Int → (List Node) → (List ByteArray) → Int → Int → Option Int) (t1 : Int) (t2 : Int) (r0e : (List Node)) : Option Int := (bautaref10_Parts_j3_T N bautaref10_Parts_r t1 t2 r0e).run some
noncomputable def bautaref10_Parts_T (N : Nat) (bautaref10_Parts_r : Int → ByteArray → Int → Int → (List Node) → (List ByteArray) → Int → Int → Option Int) (t0a : Int) (t0b : ByteArray) (t0c : Int) (t0d : Int) (t0e : (List Node)) (t0f : (List ByteArray)) (t1 : Int) (t2 : Int) : Tree Int :=
  let v1 : Bool := (ltI t1 1)
  .br v1 (
    let v2 : Int := (IntKind.i64.wrap (t2 + 1))
    .ret v2) (
    let v3 : Bool := (ltI t2 1)
    .br v3 (
      let v4 : Int := (IntKind.i64.wrap (t2 + 1))
      .ret v4) (
      .call (bautaref10_Parts_j3 N bautaref10_Parts_r t1 t2 t0e) fun y5 => (
      .ret y5)))
noncomputable def bautaref10_Parts_R (N : Nat) : Nat → Int → ByteArray → Int → Int → (List Node) → (List ByteArray) → Int → Int → Option Int
  | 0 => fun _ _ _ _ _ _ _ _ => none
  | k + 1 => fun t0a t0b t0c t0d t0e t0f t1 t2 => (bautaref10_Parts_T N (bautaref10_Parts_R N k) t0a t0b t0c t0d t0e t0f t1 t2).run some
noncomputable def bautaref10_Parts (N : Nat) : Int → ByteArray → Int → Int → (List Node) → (List ByteArray) → Int → Int → Option Int := bautaref10_Parts_R N N
/-! ### bauta/bautalaw11.Small -/
noncomputable def bautalaw11_Small_T (N : Nat) (t0a : Int) (t0b : ByteArray) (t0c : Int) (t0d : Int) (t0e : (List Node)) (t0f : (List ByteArray)) : Tree Bool :=
  .call (bautaref10_Parts N t0a t0b t0c t0d t0e t0f 300 3000) fun y1 => (
  let v2 : Bool := (leI y1 3000)
  .ret v2)
noncomputable def bautalaw11_Small (N : Nat) (t0a : Int) (t0b : ByteArray) (t0c : Int) (t0d : Int) (t0e : (List Node)) (t0f : (List ByteArray)) : Option Bool := (bautalaw11_Small_T N t0a t0b t0c t0d t0e t0f).run some
/-! ### bauta/lex.each -/
noncomputable def lex_each_T (N : Nat) : Tree Unit :=
  .ret ()
noncomputable def lex_each (N : Nat) : Option Unit := (lex_each_T N).run some
/-! ### bauta/lex.blank$1 -/
noncomputable def lex_blank_1_T (N : Nat) (t0 : Int) : Tree Bool :=
  let v1 : Bool := (t0 == 32)
  .br v1 (
    .ret true) (
    let v2 : Bool := (t0 == 9)
    .br v2 (
      .ret true) (
      let v3 : Bool := (t0 == 10)
      .ret v3))
noncomputable def lex_blank_1 (N : Nat) (t0 : Int) : Option Bool := (lex_blank_1_T N t0).run some
/-! ### bauta/lex.run -/
noncomputable def lex_run_l2_T (N : Nat) (t0 : ByteArray) (t5 : Int) : Tree (Int ⊕ Int) :=
  let v1 : Int := (t0.size : Int)
  let v2 : Bool := (ltI t5 v1)
  .br v2 (
    .br (inRange t5 t0.size) (
    let v3 : Int := (bAt t0 t5.toNat)
    .call (lex_blank_1 N v3) fun y4 => (
    .br y4 (
      let v5 : Int := (IntKind.i64.wrap (t5 + 1))
      .ret (.inl v5)) (
      .ret (.inr t5)))) .fail) (
    .ret (.inr t5))
noncomputable def lex_run_l2 (N : Nat) (t0 : ByteArray) (v : Int) : Option Int := loopN (fun v => lex_run_l2_T N t0 v) N v
noncomputable def lex_run_T (N : Nat) (t0 : ByteArray) : Tree Int :=
  .call (lex_run_l2 N t0 0) fun y1 => (
  .ret y1)
noncomputable def lex_run (N : Nat) (t0 : ByteArray) : Option Int := (lex_run_T N t0).run some
/-! ### internal/stringslite.HasPrefix -/
noncomputable def stringslite_HasPrefix_T (N : Nat) (t0 : ByteArray) (t1 : ByteArray) : Tree Bool :=
  let v1 : Int := (t0.size : Int)
  let v2 : Int := (t1.size : Int)
  let v3 : Bool := (leI v2 v1)
  .br v3 (
    let v4 : Int := (t1.size : Int)
    .br (leI 0 v4 && leI v4 (t0.size : Int)) (
    let v5 : ByteArray := (t0.extract 0 v4.toNat)
    let v6 : Bool := (v5.toList == t1.toList)
    .ret v6) .fail) (
    .ret false)
noncomputable def stringslite_HasPrefix (N : Nat) (t0 : ByteArray) (t1 : ByteArray) : Option Bool := (stringslite_HasPrefix_T N t0 t1).run some
/-! ### strings.HasPrefix -/
noncomputable def strings_HasPrefix_T (N : Nat) (t0 : ByteArray) (t1 : ByteArray) : Tree Bool :=
  .call (stringslite_HasPrefix N t0 t1) fun y1 => (
  .ret y1)
noncomputable def strings_HasPrefix (N : Nat) (t0 : ByteArray) (t1 : ByteArray) : Option Bool := (strings_HasPrefix_T N t0 t1).run some
/-! ### bauta/lex.blank$2 -/
noncomputable def lex_blank_2_T (N : Nat) (t0 : Int) : Tree Bool :=
  let v1 : Bool := (t0 != 10)
  .ret v1
noncomputable def lex_blank_2 (N : Nat) (t0 : Int) : Option Bool := (lex_blank_2_T N t0).run some
/-! ### bauta/lex.run -/
noncomputable def lex_run_2_l2_T (N : Nat) (t0 : ByteArray) (t5 : Int) : Tree (Int ⊕ Int) :=
  let v1 : Int := (t0.size : Int)
  let v2 : Bool := (ltI t5 v1)
  .br v2 (
    .br (inRange t5 t0.size) (
    let v3 : Int := (bAt t0 t5.toNat)
    .call (lex_blank_2 N v3) fun y4 => (
    .br y4 (
      let v5 : Int := (IntKind.i64.wrap (t5 + 1))
      .ret (.inl v5)) (
      .ret (.inr t5)))) .fail) (
    .ret (.inr t5))
noncomputable def lex_run_2_l2 (N : Nat) (t0 : ByteArray) (v : Int) : Option Int := loopN (fun v => lex_run_2_l2_T N t0 v) N v
noncomputable def lex_run_2_T (N : Nat) (t0 : ByteArray) : Tree Int :=
  .call (lex_run_2_l2 N t0 0) fun y1 => (
  .ret y1)
noncomputable def lex_run_2 (N : Nat) (t0 : ByteArray) : Option Int := (lex_run_2_T N t0).run some
/-! ### bauta/lex.blank -/
noncomputable def lex_blank_j5_T (N : Nat) (t3 : Int) (t4 : Int) : Tree (Unit ⊕ Int) :=
  let v1 : Bool := (t4 == 0)
  .br v1 (
    .ret (.inl ())) (
    let v2 : Int := (IntKind.i64.wrap (t3 + t4))
    .ret (.inr v2))
noncomputable def lex_blank_j5 (N : Nat) (t3 : Int) (t4 : Int) : Option (Unit ⊕ Int) := (lex_blank_j5_T N t3 t4).run some
noncomputable def lex_blank_l2_T (N : Nat) (t0 : ByteArray) (t3 : Int) : Tree (Int ⊕ Int) :=
  .br (leI 0 t3 && leI t3 (t0.size : Int)) (
  let v1 : ByteArray := (t0.extract t3.toNat t0.size)
  .call (lex_run N v1) fun y2 => (
  let v3 : Int := (IntKind.i64.wrap (t3 + y2))
  .br (leI 0 v3 && leI v3 (t0.size : Int)) (
  let v4 : ByteArray := (t0.extract v3.toNat t0.size)
  .call (strings_HasPrefix N v4 (⟨#[47, 47]⟩ : ByteArray)) fun y5 => (
  .br y5 (
    let v6 : Int := (IntKind.i64.wrap (t3 + y2))
    .br (leI 0 v6 && leI v6 (t0.size : Int)) (
    let v7 : ByteArray := (t0.extract v6.toNat t0.size)
    .call (lex_run_2 N v7) fun y8 => (
    let v9 : Int := (IntKind.i64.wrap (y2 + y8))
    .call (lex_blank_j5 N t3 v9) fun y10 => (
    .alt y10 (fun y11 => (
      .ret (.inr t3))) (fun y12 => (
      .ret (.inl y12)))))) .fail) (
    .call (lex_blank_j5 N t3 y2) fun y13 => (
    .alt y13 (fun y14 => (
      .ret (.inr t3))) (fun y15 => (
      .ret (.inl y15))))))) .fail)) .fail
noncomputable def lex_blank_l2 (N : Nat) (t0 : ByteArray) (v : Int) : Option Int := loopN (fun v => lex_blank_l2_T N t0 v) N v
noncomputable def lex_blank_T (N : Nat) (t0 : ByteArray) : Tree Int :=
  .call (lex_blank_l2 N t0 0) fun y1 => (
  .ret y1)
noncomputable def lex_blank (N : Nat) (t0 : ByteArray) : Option Int := (lex_blank_T N t0).run some
/-! ### bauta/lex.letter -/
noncomputable def lex_letter_T (N : Nat) (t0 : Int) : Tree Bool :=
  let v1 : Bool := (leI 65 t0)
  .br v1 (
    let v2 : Bool := (leI t0 90)
    .br v2 (
      .ret true) (
      let v3 : Bool := (leI 97 t0)
      .br v3 (
        let v4 : Bool := (leI t0 122)
        .ret v4) (
        .ret false))) (
    let v5 : Bool := (leI 97 t0)
    .br v5 (
      let v6 : Bool := (leI t0 122)
      .ret v6) (
      .ret false))
noncomputable def lex_letter (N : Nat) (t0 : Int) : Option Bool := (lex_letter_T N t0).run some
/-! ### bauta/lex.digit -/
noncomputable def lex_digit_T (N : Nat) (t0 : Int) : Tree Bool :=
  let v1 : Bool := (leI 48 t0)
  .br v1 (
    let v2 : Bool := (leI t0 57)
    .ret v2) (
    .ret false)
noncomputable def lex_digit (N : Nat) (t0 : Int) : Option Bool := (lex_digit_T N t0).run some
/-! ### bauta/lex.inner -/
noncomputable def lex_inner_T (N : Nat) (t0 : Int) : Tree Bool :=
  .call (lex_letter N t0) fun y1 => (
  .br y1 (
    .ret true) (
    .call (lex_digit N t0) fun y2 => (
    .br y2 (
      .ret true) (
      let v3 : Bool := (t0 == 95)
      .ret v3))))
noncomputable def lex_inner (N : Nat) (t0 : Int) : Option Bool := (lex_inner_T N t0).run some
/-! ### bauta/lex.run -/
noncomputable def lex_run_3_l2_T (N : Nat) (t0 : ByteArray) (t5 : Int) : Tree (Int ⊕ Int) :=
  let v1 : Int := (t0.size : Int)
  let v2 : Bool := (ltI t5 v1)
  .br v2 (
    .br (inRange t5 t0.size) (
    let v3 : Int := (bAt t0 t5.toNat)
    .call (lex_inner N v3) fun y4 => (
    .br y4 (
      let v5 : Int := (IntKind.i64.wrap (t5 + 1))
      .ret (.inl v5)) (
      .ret (.inr t5)))) .fail) (
    .ret (.inr t5))
noncomputable def lex_run_3_l2 (N : Nat) (t0 : ByteArray) (v : Int) : Option Int := loopN (fun v => lex_run_3_l2_T N t0 v) N v
noncomputable def lex_run_3_T (N : Nat) (t0 : ByteArray) : Tree Int :=
  .call (lex_run_3_l2 N t0 0) fun y1 => (
  .ret y1)
noncomputable def lex_run_3 (N : Nat) (t0 : ByteArray) : Option Int := (lex_run_3_T N t0).run some
/-! ### strings.Contains -/
/-! ### bauta/lex.isWord -/
noncomputable def lex_isWord_T (N : Nat) (t0 : ByteArray) : Tree Bool :=
  let v1 : Bool := (!(t0.toList == ByteArray.empty.toList))
  .br v1 (
    .call (strings_Contains N t0 (⟨#[32]⟩ : ByteArray)) fun y2 => (
    let v3 : Bool := (!y2)
    .br v3 (
      .br (leI (((⟨#[32]⟩ : ByteArray).size : Int) + t0.size) 9223372036854775807) (
      let v4 : ByteArray := ((⟨#[32]⟩ : ByteArray) ++ t0)
      .br (leI ((v4.size : Int) + (⟨#[32]⟩ : ByteArray).size) 9223372036854775807) (
      let v5 : ByteArray := (v4 ++ (⟨#[32]⟩ : ByteArray))
      .call (strings_Contains N (⟨#[32, 115, 101, 99, 114, 101, 116, 32, 112, 117, 98, 108, 105, 99, 32, 111, 117, 116, 32, 115, 104, 111, 119, 32, 102, 111, 114, 32, 105, 110, 32, 102, 110, 32]⟩ : ByteArray) v5) fun y6 => (
      .ret y6)) .fail) .fail) (
      .ret false))) (
    .ret false)
noncomputable def lex_isWord (N : Nat) (t0 : ByteArray) : Option Bool := (lex_isWord_T N t0).run some
/-! ### bauta/lex.next$1 -/
noncomputable def lex_next_1_T (N : Nat) (t0 : Int) : Tree Bool :=
  .call (lex_letter N t0) fun y1 => (
  .br y1 (
    .ret true) (
    .call (lex_digit N t0) fun y2 => (
    .ret y2)))
noncomputable def lex_next_1 (N : Nat) (t0 : Int) : Option Bool := (lex_next_1_T N t0).run some
/-! ### bauta/lex.run -/
noncomputable def lex_run_4_l2_T (N : Nat) (t0 : ByteArray) (t5 : Int) : Tree (Int ⊕ Int) :=
  let v1 : Int := (t0.size : Int)
  let v2 : Bool := (ltI t5 v1)
  .br v2 (
    .br (inRange t5 t0.size) (
    let v3 : Int := (bAt t0 t5.toNat)
    .call (lex_next_1 N v3) fun y4 => (
    .br y4 (
      let v5 : Int := (IntKind.i64.wrap (t5 + 1))
      .ret (.inl v5)) (
      .ret (.inr t5)))) .fail) (
    .ret (.inr t5))
noncomputable def lex_run_4_l2 (N : Nat) (t0 : ByteArray) (v : Int) : Option Int := loopN (fun v => lex_run_4_l2_T N t0 v) N v
noncomputable def lex_run_4_T (N : Nat) (t0 : ByteArray) : Tree Int :=
  .call (lex_run_4_l2 N t0 0) fun y1 => (
  .ret y1)
noncomputable def lex_run_4 (N : Nat) (t0 : ByteArray) : Option Int := (lex_run_4_T N t0).run some
/-! ### strings.IndexByte -/
/-! ### bauta/lex.next -/
noncomputable def lex_next_l12_T (N : Nat) (t0 : ByteArray) (t28a : ByteArray) (t28b : ByteArray) (t28c : ByteArray) (t28d : ByteArray) (t29 : Int) : Tree (Int ⊕ (Int ⊕ Unit)) :=
  let v1 : Bool := (ltI t29 4)
  .br v1 (
    .br (inRange t29 4) (
    let v2 : ByteArray := (bif (decide (t29 = 3)) then t28d else (bif (decide (t29 = 2)) then t28c else (bif (decide (t29 = 1)) then t28b else t28a)))
    .call (strings_HasPrefix N t0 v2) fun y3 => (
    .br y3 (
      let v4 : Int := (v2.size : Int)
      .ret (.inr (.inl v4))) (
      let v5 : Int := (IntKind.i64.wrap (t29 + 1))
      .ret (.inl v5)))) .fail) (
    .ret (.inr (.inr ())))
noncomputable def lex_next_l12 (N : Nat) (t0 : ByteArray) (t28a : ByteArray) (t28b : ByteArray) (t28c : ByteArray) (t28d : ByteArray) (v : Int) : Option (Int ⊕ Unit) := loopN (fun v => lex_next_l12_T N t0 t28a t28b t28c t28d v) N v
noncomputable def lex_next_T (N : Nat) (t0 : ByteArray) : Tree (Int × Int) :=
  .br (inRange 0 t0.size) (
  let v1 : Int := (bAt t0 0)
  .call (lex_letter N v1) fun y2 => (
  .br y2 (
    .call (lex_run_3 N t0) fun y3 => (
    .br (leI 0 y3 && leI y3 (t0.size : Int)) (
    let v4 : ByteArray := (t0.extract 0 y3.toNat)
    .call (lex_isWord N v4) fun y5 => (
    .br y5 (
      .ret (3, y3)) (
      let v6 : Bool := (ltI 32 y3)
      .br v6 (
        .ret (0, (-1))) (
        .ret (1, y3))))) .fail)) (
    .call (lex_digit N v1) fun y7 => (
    .br y7 (
      .call (lex_run_4 N t0) fun y8 => (
      .ret (2, y8))) (
      .call (lex_next_l12 N t0 (⟨#[60, 60, 60]⟩ : ByteArray) (⟨#[60, 60]⟩ : ByteArray) (⟨#[62, 62]⟩ : ByteArray) (⟨#[46, 46]⟩ : ByteArray) 0) fun y9 => (
      .alt y9 (fun y10 => (
        .ret (4, y10))) (fun y11 => (
        .br (inRange 0 t0.size) (
        let v12 : Int := (bAt t0 0)
        .call (strings_IndexByte N (⟨#[61, 59, 44, 40, 41, 123, 125, 43, 45, 38, 124, 94, 126]⟩ : ByteArray) v12) fun y13 => (
        let v14 : Bool := (leI 0 y13)
        .br v14 (
          .ret (4, 1)) (
          .ret (0, (-1))))) .fail)))))))) .fail
noncomputable def lex_next (N : Nat) (t0 : ByteArray) : Option (Int × Int) := (lex_next_T N t0).run some
/-! ### bauta/lex.Words.round5 -/
noncomputable def lex_Words_round5_j9_T (N : Nat) (t7 : Int) (r5a : Int) (r5b : ByteArray) (r5c : Int) (r7 : (List (Int × (ByteArray × Int)))) : Tree (Unit ⊕ (List (Int × (ByteArray × Int)))) :=
  let v1 : Bool := (t7 != 0)
  .br v1 (
    .ret (.inl ())) (
    .br (ltI (((r7.length : Int) + 1) * 32) 140737488355328) (
    let v2 : (List (Int × (ByteArray × Int))) := (r7 ++ [(r5a, (r5b, r5c))])
    .ret (.inr v2)) .fail)
noncomputable def lex_Words_round5_j9 (N : Nat) (t7 : Int) (r5a : Int) (r5b : ByteArray) (r5c : Int) (r7 : (List (Int × (ByteArray × Int)))) : Option (Unit ⊕ (List (Int × (ByteArray × Int)))) := (lex_Words_round5_j9_T N t7 r5a r5b r5c r7).run some
noncomputable def lex_Words_round5_T (N : Nat) (t0a : Int) (t0b : ByteArray) (t0c : Int) (t1 : Int) (r5 : (List (Int × (ByteArray × Int)))) : Tree (Int ⊕ (List (Int × (ByteArray × Int)))) :=
  let v1 : Bool := (t1 == 0)
  .br v1 (
    let v2 : Int := (r5.length : Int)
    let v3 : Bool := (v2 == 4000)
    .br v3 (
      .call (lex_Words_round5_j9 N 150 t0a t0b t0c r5) fun y4 => (
      .alt y4 (fun y5 => (
        .ret (.inl 150))) (fun y6 => (
        .ret (.inr y6))))) (
      .call (lex_Words_round5_j9 N t1 t0a t0b t0c r5) fun y7 => (
      .alt y7 (fun y8 => (
        .ret (.inl t1))) (fun y9 => (
        .ret (.inr y9)))))) (
    .call (lex_Words_round5_j9 N t1 t0a t0b t0c r5) fun y10 => (
    .alt y10 (fun y11 => (
      .ret (.inl t1))) (fun y12 => (
      .ret (.inr y12)))))
noncomputable def lex_Words_round5 (N : Nat) (t0a : Int) (t0b : ByteArray) (t0c : Int) (t1 : Int) (r5 : (List (Int × (ByteArray × Int)))) : Option (Int ⊕ (List (Int × (ByteArray × Int)))) := (lex_Words_round5_T N t0a t0b t0c t1 r5).run some
/-! ### bauta/lex.each$1 -/
noncomputable def lex_each_1_l1_T (N : Nat) (r1 : ByteArray) (t3 : Int) (r7 : (List (Int × (ByteArray × Int)))) : Tree ((Int × (List (Int × (ByteArray × Int)))) ⊕ ((Int × Int × (List (Int × (ByteArray × Int)))) ⊕ (List (Int × (ByteArray × Int))) ⊕ (List (Int × (ByteArray × Int))))) :=
  let v1 : Int := (r1.size : Int)
  let v2 : Bool := (ltI t3 v1)
  .br v2 (
    .br (leI 0 t3 && leI t3 (r1.size : Int)) (
    let v3 : ByteArray := (r1.extract t3.toNat r1.size)
    .call (lex_next N v3) fun y4 => (
    let v5 : Bool := (ltI y4.2 0)
    .br v5 (
      .call (lex_Words_round5 N 0 ByteArray.empty t3 100 r7) fun y6 => (
      .alt y6 (fun y7 => (
        .ret (.inr (.inl (t3, y7, r7))))) (fun y8 => (
        .ret (.inr (.inr (.inl y8))))))) (
      let v9 : Int := (IntKind.i64.wrap (t3 + y4.2))
      .br (leI 0 t3 && (leI t3 v9 && leI v9 (r1.size : Int))) (
      let v10 : ByteArray := (r1.extract t3.toNat v9.toNat)
      .call (lex_Words_round5 N y4.1 v10 t3 0 r7) fun y11 => (
      .alt y11 (fun y12 => (
        .ret (.inr (.inl (t3, y12, r7))))) (fun y13 => (
        let v14 : Int := (IntKind.i64.wrap (t3 + y4.2))
        .br (leI 0 v14 && leI v14 (r1.size : Int)) (
        let v15 : ByteArray := (r1.extract v14.toNat r1.size)
        .call (lex_blank N v15) fun y16 => (
        let v17 : Int := (IntKind.i64.wrap (v14 + y16))
        .ret (.inl (v17, y13)))) .fail)))) .fail))) .fail) (
    .ret (.inr (.inr (.inr r7))))
noncomputable def lex_each_1_l1 (N : Nat) (r1 : ByteArray) (v : (Int × (List (Int × (ByteArray × Int))))) : Option ((Int × Int × (List (Int × (ByteArray × Int)))) ⊕ (List (Int × (ByteArray × Int))) ⊕ (List (Int × (ByteArray × Int)))) := loopN (fun v => lex_each_1_l1_T N r1 v.1 v.2) N v
noncomputable def lex_each_1_T (N : Nat) (r1 : ByteArray) (r6 : (List (Int × (ByteArray × Int)))) : Tree ((Int × Int × (List (Int × (ByteArray × Int)))) ⊕ (List (Int × (ByteArray × Int)))) :=
  .call (lex_blank N r1) fun y1 => (
  .call (lex_each_1_l1 N r1 (y1, r6)) fun y2 => (
  .alt y2 (fun y3 => (
    .ret (.inl (y3.1, y3.2.1, y3.2.2)))) (fun y4 => (
    .alt y4 (fun y5 => (
      .ret (.inr y5))) (fun y6 => (
      let v7 : Int := (r1.size : Int)
      .call (lex_Words_round5 N 0 ByteArray.empty v7 0 y6) fun y8 => (
      .alt y8 (fun y9 => (
        .ret (.inl (v7, y9, y6)))) (fun y10 => (
        .ret (.inr y10))))))))))
noncomputable def lex_each_1 (N : Nat) (r1 : ByteArray) (r6 : (List (Int × (ByteArray × Int)))) : Option ((Int × Int × (List (Int × (ByteArray × Int)))) ⊕ (List (Int × (ByteArray × Int)))) := (lex_each_1_T N r1 r6).run some
/-! ### bauta/lex.Words -/
noncomputable def lex_Words_T (N : Nat) (t0 : ByteArray) : Tree (Int × Int × (List (Int × (ByteArray × Int)))) :=
  let v1 : Int := (t0.size : Int)
  let v2 : Bool := (ltI 20000 v1)
  .br v2 (
    .ret (0, 150, [])) (
    .call (lex_each N) fun y3 => (
    .call (lex_each_1 N t0 []) fun y4 => (
    .alt y4 (fun y5 => (
      .ret (y5.1, y5.2.1, []))) (fun y6 => (
      .ret (0, 0, y6))))))
noncomputable def lex_Words (N : Nat) (t0 : ByteArray) : Option (Int × Int × (List (Int × (ByteArray × Int)))) := (lex_Words_T N t0).run some
/-! ### (*bauta/parse.tokens).tok -/
noncomputable def parse_tokens_tok_T (N : Nat) (r0 : Int) (r1 : (List (Int × (ByteArray × Int)))) : Tree (Int × ByteArray × Int) :=
  .br (inRange r0 r1.length) (
  let v1 : (Int × (ByteArray × Int)) := (r1.getD r0.toNat (0, (ByteArray.empty, 0)))
  .ret (v1.1, v1.2.1, v1.2.2)) .fail
noncomputable def parse_tokens_tok (N : Nat) (r0 : Int) (r1 : (List (Int × (ByteArray × Int)))) : Option (Int × ByteArray × Int) := (parse_tokens_tok_T N r0 r1).run some
/-! ### bauta/parse.node -/
noncomputable def parse_node_T (N : Nat) : Tree Unit :=
  .ret ()
noncomputable def parse_node (N : Nat) : Option Unit := (parse_node_T N).run some
/-! ### slices.Index[[]string,string] -/
noncomputable def slices_Index_l2_T (N : Nat) (t0 : (List ByteArray)) (t1 : ByteArray) (t7 : Int) (t8 : Int) : Tree (Int ⊕ (Int ⊕ Unit)) :=
  let v1 : Bool := (ltI t8 t7)
  .br v1 (
    .br (inRange t8 t0.length) (
    let v2 : ByteArray := (t0.getD t8.toNat ByteArray.empty)
    let v3 : Bool := (t1.toList == v2.toList)
    .br v3 (
      .ret (.inr (.inl t8))) (
      let v4 : Int := (IntKind.i64.wrap (t8 + 1))
      .ret (.inl v4))) .fail) (
    .ret (.inr (.inr ())))
noncomputable def slices_Index_l2 (N : Nat) (t0 : (List ByteArray)) (t1 : ByteArray) (t7 : Int) (v : Int) : Option (Int ⊕ Unit) := loopN (fun v => slices_Index_l2_T N t0 t1 t7 v) N v
noncomputable def slices_Index_T (N : Nat) (t0 : (List ByteArray)) (t1 : ByteArray) : Tree Int :=
  let v1 : Int := (t0.length : Int)
  .call (slices_Index_l2 N t0 t1 v1 0) fun y2 => (
  .alt y2 (fun y3 => (
    .ret y3)) (fun y4 => (
    .ret (-1))))
noncomputable def slices_Index (N : Nat) (t0 : (List ByteArray)) (t1 : ByteArray) : Option Int := (slices_Index_T N t0 t1).run some
/-! ### slices.Contains[[]string,string] -/
noncomputable def slices_Contains_T (N : Nat) (t0 : (List ByteArray)) (t1 : ByteArray) : Tree Bool :=
  .call (slices_Index N t0 t1) fun y1 => (
  let v2 : Bool := (leI 0 y1)
  .ret v2)
noncomputable def slices_Contains (N : Nat) (t0 : (List ByteArray)) (t1 : ByteArray) : Option Bool := (slices_Contains_T N t0 t1).run some
/-! ### (*bauta/parse.tokens).goes -/
noncomputable def parse_tokens_goes_j3_T (N : Nat) (t21 : Bool) (r0 : Int) : Tree (Int ⊕ Unit) :=
  .br t21 (
    let v1 : Int := (IntKind.i64.wrap (r0 + 1))
    .ret (.inl v1)) (
    .ret (.inr ()))
noncomputable def parse_tokens_goes_j3 (N : Nat) (t21 : Bool) (r0 : Int) : Option (Int ⊕ Unit) := (parse_tokens_goes_j3_T N t21 r0).run some
noncomputable def parse_tokens_goes_T (N : Nat) (t1 : (List ByteArray)) (r0 : Int) (r1 : (List (Int × (ByteArray × Int)))) : Tree (Bool × Int) :=
  .call (parse_tokens_tok N r0 r1) fun y1 => (
  let v2 : Bool := (y1.1 == 4)
  .br v2 (
    .call (slices_Contains N t1 y1.2.1) fun y3 => (
    .call (parse_tokens_goes_j3 N y3 r0) fun y4 => (
    .alt y4 (fun y5 => (
      .ret (true, y5))) (fun y6 => (
      .ret (false, r0)))))) (
    let v7 : Bool := (y1.1 == 3)
    .br v7 (
      .call (slices_Contains N t1 y1.2.1) fun y8 => (
      .call (parse_tokens_goes_j3 N y8 r0) fun y9 => (
      .alt y9 (fun y10 => (
        .ret (true, y10))) (fun y11 => (
        .ret (false, r0)))))) (
      .call (parse_tokens_goes_j3 N false r0) fun y12 => (
      .alt y12 (fun y13 => (
        .ret (true, y13))) (fun y14 => (
        .ret (false, r0)))))))
noncomputable def parse_tokens_goes (N : Nat) (t1 : (List ByteArray)) (r0 : Int) (r1 : (List (Int × (ByteArray × Int)))) : Option (Bool × Int) := (parse_tokens_goes_T N t1 r0 r1).run some
/-! ### (*bauta/parse.tokens).fail -/
noncomputable def parse_tokens_fail_T (N : Nat) (r0 : Int) (r1 : (List (Int × (ByteArray × Int)))) : Tree Int :=
  .call (parse_tokens_tok N r0 r1) fun y1 => (
  .ret y1.2.2)
noncomputable def parse_tokens_fail (N : Nat) (r0 : Int) (r1 : (List (Int × (ByteArray × Int)))) : Option Int := (parse_tokens_fail_T N r0 r1).run some
/-! ### (*bauta/parse.tokens).name -/
noncomputable def parse_tokens_name_j4_T (N : Nat) (r0 : Int) : Tree Int :=
  let v1 : Int := (IntKind.i64.wrap (r0 + 1))
  .ret v1
noncomputable def parse_tokens_name_j4 (N : Nat) (r0 : Int) : Option Int := (parse_tokens_name_j4_T N r0).run some
noncomputable def parse_tokens_name_T (N : Nat) (r0 : Int) (r1 : (List (Int × (ByteArray × Int)))) : Tree (Int ⊕ (ByteArray × Int)) :=
  .call (parse_tokens_tok N r0 r1) fun y1 => (
  let v2 : Bool := (y1.1 != 1)
  .br v2 (
    .call (parse_tokens_fail N r0 r1) fun y3 => (
    .ret (.inl y3))) (
    .call (parse_tokens_name_j4 N r0) fun y4 => (
    .ret (.inr (y1.2.1, y4)))))
noncomputable def parse_tokens_name (N : Nat) (r0 : Int) (r1 : (List (Int × (ByteArray × Int)))) : Option (Int ⊕ (ByteArray × Int)) := (parse_tokens_name_T N r0 r1).run some
/-! ### (*bauta/parse.tokens).names -/
noncomputable def parse_tokens_names_l2_T (N : Nat) (r2 : (List (Int × (ByteArray × Int)))) (r0 : Int) (r1 : (List ByteArray)) : Tree ((Int × (List ByteArray)) ⊕ ((Int × Int) ⊕ (Int × (List ByteArray)))) :=
  .call (parse_tokens_goes N [(⟨#[44]⟩ : ByteArray)] r0 r2) fun y1 => (
  .br y1.1 (
    .call (parse_tokens_name N y1.2 r2) fun y2 => (
    .alt y2 (fun y3 => (
      .ret (.inr (.inl (y3, y1.2))))) (fun y4 => (
      .br (ltI (((r1.length : Int) + 1) * 16) 140737488355328) (
      let v5 : (List ByteArray) := (r1 ++ [y4.1])
      .ret (.inl (y4.2, v5))) .fail)))) (
    .ret (.inr (.inr (y1.2, r1)))))
noncomputable def parse_tokens_names_l2 (N : Nat) (r2 : (List (Int × (ByteArray × Int)))) (v : (Int × (List ByteArray))) : Option ((Int × Int) ⊕ (Int × (List ByteArray))) := loopN (fun v => parse_tokens_names_l2_T N r2 v.1 v.2) N v
noncomputable def parse_tokens_names_T (N : Nat) (r0 : Int) (r1 : (List (Int × (ByteArray × Int)))) : Tree ((Int × Int) ⊕ ((List ByteArray) × Int)) :=
  .call (parse_tokens_name N r0 r1) fun y1 => (
  .alt y1 (fun y2 => (
    .ret (.inl (y2, r0)))) (fun y3 => (
    .call (parse_tokens_names_l2 N r1 (y3.2, [y3.1])) fun y4 => (
    .alt y4 (fun y5 => (
      .ret (.inl (y5.1, y5.2)))) (fun y6 => (
      .ret (.inr (y6.2, y6.1))))))))
noncomputable def parse_tokens_names (N : Nat) (r0 : Int) (r1 : (List (Int × (ByteArray × Int)))) : Option ((Int × Int) ⊕ ((List ByteArray) × Int)) := (parse_tokens_names_T N r0 r1).run some
/-! ### (*bauta/parse.tokens).must -/
noncomputable def parse_tokens_must_T (N : Nat) (t1 : ByteArray) (r0 : Int) (r1 : (List (Int × (ByteArray × Int)))) : Tree ((Int × Int) ⊕ Int) :=
  .call (parse_tokens_goes N [t1] r0 r1) fun y1 => (
  let v2 : Bool := (!y1.1)
  .br v2 (
    .call (parse_tokens_fail N y1.2 r1) fun y3 => (
    .ret (.inl (y3, y1.2)))) (
    .ret (.inr y1.2)))
noncomputable def parse_tokens_must (N : Nat) (t1 : ByteArray) (r0 : Int) (r1 : (List (Int × (ByteArray × Int)))) : Option ((Int × Int) ⊕ Int) := (parse_tokens_must_T N t1 r0 r1).run some
/-! ### (*bauta/parse.parser).deep -/
noncomputable def parse_parser_deep_T (N : Nat) (t1 : Int) (r0 : Int) (r1 : (List (Int × (ByteArray × Int)))) : Tree (Int ⊕ Unit) :=
  let v1 : Bool := (ltI 60 t1)
  .br v1 (
    .call (parse_tokens_fail N r0 r1) fun y2 => (
    .ret (.inl y2))) (
    .ret (.inr ()))
noncomputable def parse_parser_deep (N : Nat) (t1 : Int) (r0 : Int) (r1 : (List (Int × (ByteArray × Int)))) : Option (Int ⊕ Unit) := (parse_parser_deep_T N t1 r0 r1).run some
/-! ### bauta/parse.node -/
noncomputable def parse_node_2_T (N : Nat) : Tree Unit :=
  .ret ()
noncomputable def parse_node_2 (N : Nat) : Option Unit := (parse_node_2_T N).run some
/-! ### bauta/word.digit -/
noncomputable def word_digit_j5_T (N : Nat) (t0 : Int) (t6 : Int) (t17 : Bool) : Tree Int :=
  .br t17 (
    let v1 : Int := (IntKind.u8.wrap (t0 - 97))
    let v2 : Int := (IntKind.u64.wrap v1)
    let v3 : Int := (IntKind.u64.wrap (v2 + 10))
    .ret v3) (
    let v4 : Bool := (leI 65 t0)
    .br v4 (
      let v5 : Bool := (leI t0 70)
      .br v5 (
        let v6 : Int := (IntKind.u8.wrap (t0 - 65))
        let v7 : Int := (IntKind.u64.wrap v6)
        let v8 : Int := (IntKind.u64.wrap (v7 + 10))
        .ret v8) (
        .ret t6)) (
      .ret t6))
noncomputable def word_digit_j5 (N : Nat) (t0 : Int) (t6 : Int) (t17 : Bool) : Option Int := (word_digit_j5_T N t0 t6 t17).run some
noncomputable def word_digit_j3_T (N : Nat) (t0 : Int) (t6 : Int) (t7 : Bool) : Tree Int :=
  .br t7 (
    let v1 : Int := (IntKind.u8.wrap (t0 - 48))
    let v2 : Int := (IntKind.u64.wrap v1)
    .ret v2) (
    let v3 : Bool := (leI 97 t0)
    .br v3 (
      let v4 : Bool := (leI t0 102)
      .call (word_digit_j5 N t0 t6 v4) fun y5 => (
      .ret y5)) (
      .call (word_digit_j5 N t0 t6 false) fun y6 => (
      .ret y6)))
noncomputable def word_digit_j3 (N : Nat) (t0 : Int) (t6 : Int) (t7 : Bool) : Option Int := (word_digit_j3_T N t0 t6 t7).run some
noncomputable def word_digit_T (N : Nat) (t0 : Int) (t1 : Int) : Tree (Int × Bool) :=
  let v1 : Bool := (leI 48 t0)
  .br v1 (
    let v2 : Bool := (leI t0 57)
    .call (word_digit_j3 N t0 99 v2) fun y3 => (
    let v4 : Bool := (ltI y3 t1)
    .ret (y3, v4))) (
    .call (word_digit_j3 N t0 99 false) fun y5 => (
    let v6 : Bool := (ltI y5 t1)
    .ret (y5, v6)))
noncomputable def word_digit (N : Nat) (t0 : Int) (t1 : Int) : Option (Int × Bool) := (word_digit_T N t0 t1).run some
/-! ### bauta/word.Number -/
noncomputable def word_Number_l6_T (N : Nat) (t0 : ByteArray) (t4 : Int) (t21 : Int) (t5 : Int) (t6 : Bool) (t22 : Int) : Tree ((Int × Bool × Int) ⊕ (Unit ⊕ (Int × Bool))) :=
  let v1 : Bool := (ltI t22 t21)
  .br v1 (
    .br (inRange t22 t0.size) (
    let v2 : Int := (bAt t0 t22.toNat)
    .call (word_digit N v2 t4) fun y3 => (
    let v4 : Bool := (!y3.2)
    .br v4 (
      .ret (.inr (.inl ()))) (
      let v5 : Int := (IntKind.u64.wrap (t5 * t4))
      let v6 : Int := (IntKind.u64.wrap (v5 + y3.1))
      let v7 : Bool := (ltI 4294967295 v6)
      .br v7 (
        let v8 : Int := (IntKind.i64.wrap (t22 + 1))
        .ret (.inl (4294967295, true, v8))) (
        let v9 : Int := (IntKind.i64.wrap (t22 + 1))
        .ret (.inl (v6, t6, v9)))))) .fail) (
    .ret (.inr (.inr (t5, t6))))
noncomputable def word_Number_l6 (N : Nat) (t0 : ByteArray) (t4 : Int) (t21 : Int) (v : (Int × Bool × Int)) : Option (Unit ⊕ (Int × Bool)) := loopN (fun v => word_Number_l6_T N t0 t4 t21 v.1 v.2.1 v.2.2) N v
noncomputable def word_Number_j4_T (N : Nat) (t0 : ByteArray) (t4 : Int) : Tree (Int × Int) :=
  let v1 : Int := (t0.size : Int)
  .call (word_Number_l6 N t0 t4 v1 (0, false, 0)) fun y2 => (
  .alt y2 (fun y3 => (
    .ret (0, 4))) (fun y4 => (
    let v5 : Bool := (t0.toList == ByteArray.empty.toList)
    .br v5 (
      .ret (0, 4)) (
      .br y4.2 (
        .ret (0, 2)) (
        let v6 : Int := (IntKind.u32.wrap y4.1)
        .ret (v6, 0))))))
noncomputable def word_Number_j4 (N : Nat) (t0 : ByteArray) (t4 : Int) : Option (Int × Int) := (word_Number_j4_T N t0 t4).run some
noncomputable def word_Number_T (N : Nat) (t0 : ByteArray) : Tree (Int × Int) :=
  let v1 : Int := (t0.size : Int)
  let v2 : Bool := (ltI 1 v1)
  .br v2 (
    .br (leI 0 2 && leI 2 (t0.size : Int)) (
    let v3 : ByteArray := (t0.extract 0 2)
    let v4 : Bool := (v3.toList == (⟨#[48, 120]⟩ : ByteArray).toList)
    .br v4 (
      .br (leI 0 2 && leI 2 (t0.size : Int)) (
      let v5 : ByteArray := (t0.extract 2 t0.size)
      .call (word_Number_j4 N v5 16) fun y6 => (
      .ret (y6.1, y6.2))) .fail) (
      .call (word_Number_j4 N t0 10) fun y7 => (
      .ret (y7.1, y7.2)))) .fail) (
    .call (word_Number_j4 N t0 10) fun y8 => (
    .ret (y8.1, y8.2)))
noncomputable def word_Number (N : Nat) (t0 : ByteArray) : Option (Int × Int) := (word_Number_T N t0).run some
/-! ### (*bauta/parse.parser).primary -/
noncomputable def parse_parser_primary_j8_T (N : Nat) (parse_parser_expr_r : Int → Int → (List (Int × (ByteArray × Int))) → Option ((Int × Int × Int) ⊕ (Int × ByteArray × Int × Int × (List Node) × (List ByteArray) × Int))) (r0 : Int) : Tree Int :=
  let v1 : Int := (IntKind.i64.wrap (r0 + 1))
  .ret v1
noncomputable def parse_parser_primary_j8 (N : Nat) (parse_parser_expr_r : Int → Int → (List (Int × (ByteArray × Int))) → Option ((Int × Int × Int) ⊕ (Int × ByteArray × Int × Int × (List Node) × (List ByteArray) × Int))) (r0 : Int) : Option Int := (parse_parser_primary_j8_T N parse_parser_expr_r r0).run some
noncomputable def parse_parser_primary_j6_T (N : Nat) (parse_parser_expr_r : Int → Int → (List (Int × (ByteArray × Int))) → Option ((Int × Int × Int) ⊕ (Int × ByteArray × Int × Int × (List Node) × (List ByteArray) × Int))) (t7 : Int) (r0 : Int) (r3 : (List (Int × (ByteArray × Int)))) : Tree (Int ⊕ Int) :=
  let v1 : Bool := (t7 != 0)
  .br v1 (
    .call (parse_tokens_fail N r0 r3) fun y2 => (
    .ret (.inl y2))) (
    .call (parse_parser_primary_j8 N parse_parser_expr_r r0) fun y3 => (
    .ret (.inr y3)))
noncomputable def parse_parser_primary_j6 (N : Nat) (parse_parser_expr_r : Int → Int → (List (Int × (ByteArray × Int))) → Option ((Int × Int × Int) ⊕ (Int × ByteArray × Int × Int × (List Node) × (List ByteArray) × Int))) (t7 : Int) (r0 : Int) (r3 : (List (Int × (ByteArray × Int)))) : Option (Int ⊕ Int) := (parse_parser_primary_j6_T N parse_parser_expr_r t7 r0 r3).run some
noncomputable def parse_parser_primary_l19_T (N : Nat) (parse_parser_expr_r : Int → Int → (List (Int × (ByteArray × Int))) → Option ((Int × Int × Int) ⊕ (Int × ByteArray × Int × Int × (List Node) × (List ByteArray) × Int))) (t1 : Int) (r3 : (List (Int × (ByteArray × Int)))) (r0 : Int) (r6 : (List Node)) : Tree ((Int × (List Node)) ⊕ ((Int × Int × Int) ⊕ (Int × (List Node)))) :=
  .call (parse_tokens_goes N [(⟨#[44]⟩ : ByteArray)] r0 r3) fun y1 => (
  .br y1.1 (
    let v2 : Int := (IntKind.i64.wrap (t1 + 1))
    .call (parse_parser_expr_r v2 y1.2 r3) fun y3 => (
    .alt y3 (fun y4 => (
      .ret (.inr (.inl (y4.1, y4.2.1, y4.2.2))))) (fun y5 => (
      .br (ltI (((r6.length : Int) + 1) * 88) 140737488355328) (
      let v6 : (List Node) := (r6 ++ [(Node.mk y5.1 y5.2.1 y5.2.2.1 y5.2.2.2.1 y5.2.2.2.2.1 y5.2.2.2.2.2.1)])
      .ret (.inl (y5.2.2.2.2.2.2, v6))) .fail)))) (
    .ret (.inr (.inr (y1.2, r6)))))
noncomputable def parse_parser_primary_l19 (N : Nat) (parse_parser_expr_r : Int → Int → (List (Int × (ByteArray × Int))) → Option ((Int × Int × Int) ⊕ (Int × ByteArray × Int × Int × (List Node) × (List ByteArray) × Int))) (t1 : Int) (r3 : (List (Int × (ByteArray × Int)))) (v : (Int × (List Node))) : Option ((Int × Int × Int) ⊕ (Int × (List Node))) := loopN (fun v => parse_parser_primary_l19_T N parse_parser_expr_r t1 r3 v.1 v.2) N v
noncomputable def parse_parser_primary_T (N : Nat) (parse_parser_expr_r : Int → Int → (List (Int × (ByteArray × Int))) → Option ((Int × Int × Int) ⊕ (Int × ByteArray × Int × Int × (List Node) × (List ByteArray) × Int))) (t1 : Int) (r0 : Int) (r1 : (List (Int × (ByteArray × Int)))) : Tree ((Int × Int × Int) ⊕ (Int × ByteArray × Int × Int × (List Node) × (List ByteArray) × Int)) :=
  .call (parse_tokens_tok N r0 r1) fun y1 => (
  let v2 : Bool := (y1.1 == 2)
  .br v2 (
    .call (word_Number N y1.2.1) fun y3 => (
    let v4 : Bool := (y3.2 == 4)
    .br v4 (
      .call (parse_tokens_fail N r0 r1) fun y5 => (
      .ret (.inl (y5, 100, r0)))) (
      .call (parse_parser_primary_j6 N parse_parser_expr_r y3.2 r0 r1) fun y6 => (
      .alt y6 (fun y7 => (
        .ret (.inl (y7, 150, r0)))) (fun y8 => (
        .ret (.inr (0, ByteArray.empty, y3.1, y1.2.2, [], [], y8)))))))) (
    .call (parse_tokens_goes N [(⟨#[40]⟩ : ByteArray)] r0 r1) fun y9 => (
    .br y9.1 (
      let v10 : Int := (IntKind.i64.wrap (t1 + 1))
      .call (parse_parser_expr_r v10 y9.2 r1) fun y11 => (
      .alt y11 (fun y12 => (
        .ret (.inl (y12.1, y12.2.1, y12.2.2)))) (fun y13 => (
        .call (parse_tokens_must N (⟨#[41]⟩ : ByteArray) y13.2.2.2.2.2.2 r1) fun y14 => (
        .alt y14 (fun y15 => (
          .ret (.inl (y15.1, 100, y15.2)))) (fun y16 => (
          .ret (.inr (y13.1, y13.2.1, y13.2.2.1, y1.2.2, y13.2.2.2.2.1, y13.2.2.2.2.2.1, y16))))))))) (
      .call (parse_tokens_name N y9.2 r1) fun y17 => (
      .alt y17 (fun y18 => (
        .ret (.inl (y18, 100, y9.2)))) (fun y19 => (
        .call (parse_node N) fun y20 => (
        .call (parse_tokens_goes N [(⟨#[40]⟩ : ByteArray)] y19.2 r1) fun y21 => (
        .br y21.1 (
          let v22 : Int := (IntKind.i64.wrap (t1 + 1))
          .call (parse_parser_expr_r v22 y21.2 r1) fun y23 => (
          .alt y23 (fun y24 => (
            .ret (.inl (y24.1, y24.2.1, y24.2.2)))) (fun y25 => (
            let v26 : (List Node) := [(Node.mk y25.1 y25.2.1 y25.2.2.1 y25.2.2.2.1 y25.2.2.2.2.1 y25.2.2.2.2.2.1)]
            .call (parse_parser_primary_l19 N parse_parser_expr_r t1 r1 (y25.2.2.2.2.2.2, v26)) fun y27 => (
            .alt y27 (fun y28 => (
              .ret (.inl (y28.1, y28.2.1, y28.2.2)))) (fun y29 => (
              .call (parse_tokens_must N (⟨#[41]⟩ : ByteArray) y29.1 r1) fun y30 => (
              .alt y30 (fun y31 => (
                .ret (.inl (y31.1, 100, y31.2)))) (fun y32 => (
                .ret (.inr (5, y19.1, 0, y1.2.2, y29.2, [], y32)))))))))))) (
          .ret (.inr (1, y19.1, 0, y1.2.2, [], [], y21.2))))))))))))
noncomputable def parse_parser_primary (N : Nat) (parse_parser_expr_r : Int → Int → (List (Int × (ByteArray × Int))) → Option ((Int × Int × Int) ⊕ (Int × ByteArray × Int × Int × (List Node) × (List ByteArray) × Int))) (t1 : Int) (r0 : Int) (r1 : (List (Int × (ByteArray × Int)))) : Option ((Int × Int × Int) ⊕ (Int × ByteArray × Int × Int × (List Node) × (List ByteArray) × Int)) := (parse_parser_primary_T N parse_parser_expr_r t1 r0 r1).run some
/-! ### (*bauta/parse.parser).unary -/
noncomputable def parse_parser_unary_T (N : Nat) (parse_parser_expr_r : Int → Int → (List (Int × (ByteArray × Int))) → Option ((Int × Int × Int) ⊕ (Int × ByteArray × Int × Int × (List Node) × (List ByteArray) × Int))) (parse_parser_unary_r : Int → Int → (List (Int × (ByteArray × Int))) → Option ((Int × Int × Int) ⊕ (Int × ByteArray × Int × Int × (List Node) × (List ByteArray) × Int))) (t1 : Int) (r0 : Int) (r1 : (List (Int × (ByteArray × Int)))) : Tree ((Int × Int × Int) ⊕ (Int × ByteArray × Int × Int × (List Node) × (List ByteArray) × Int)) :=
  .call (parse_parser_deep N t1 r0 r1) fun y1 => (
  .alt y1 (fun y2 => (
    .ret (.inl (y2, 150, r0)))) (fun y3 => (
    .call (parse_tokens_tok N r0 r1) fun y4 => (
    .call (parse_tokens_goes N [(⟨#[126]⟩ : ByteArray), (⟨#[45]⟩ : ByteArray)] r0 r1) fun y5 => (
    .br y5.1 (
      let v6 : Int := (IntKind.i64.wrap (t1 + 1))
      .call (parse_parser_unary_r v6 y5.2 r1) fun y7 => (
      .alt y7 (fun y8 => (
        .ret (.inl (y8.1, y8.2.1, y8.2.2)))) (fun y9 => (
        .call (parse_node_2 N) fun y10 => (
        .ret (.inr (2, y4.2.1, 0, y4.2.2, [(Node.mk y9.1 y9.2.1 y9.2.2.1 y9.2.2.2.1 y9.2.2.2.2.1 y9.2.2.2.2.2.1)], [], y9.2.2.2.2.2.2))))))) (
      .call (parse_parser_primary N parse_parser_expr_r t1 y5.2 r1) fun y11 => (
      .alt y11 (fun y12 => (
        .ret (.inl (y12.1, y12.2.1, y12.2.2)))) (fun y13 => (
        .ret (.inr (y13.1, y13.2.1, y13.2.2.1, y13.2.2.2.1, y13.2.2.2.2.1, y13.2.2.2.2.2.1, y13.2.2.2.2.2.2)))))))))))
noncomputable def parse_parser_unary_R (N : Nat) (parse_parser_expr_r : Int → Int → (List (Int × (ByteArray × Int))) → Option ((Int × Int × Int) ⊕ (Int × ByteArray × Int × Int × (List Node) × (List ByteArray) × Int))) : Nat → Int → Int → (List (Int × (ByteArray × Int))) → Option ((Int × Int × Int) ⊕ (Int × ByteArray × Int × Int × (List Node) × (List ByteArray) × Int))
  | 0 => fun _ _ _ => none
  | k + 1 => fun t1 r0 r1 => (parse_parser_unary_T N parse_parser_expr_r (parse_parser_unary_R N parse_parser_expr_r k) t1 r0 r1).run some
noncomputable def parse_parser_unary (N : Nat) (parse_parser_expr_r : Int → Int → (List (Int × (ByteArray × Int))) → Option ((Int × Int × Int) ⊕ (Int × ByteArray × Int × Int × (List Node) × (List ByteArray) × Int))) : Int → Int → (List (Int × (ByteArray × Int))) → Option ((Int × Int × Int) ⊕ (Int × ByteArray × Int × Int × (List Node) × (List ByteArray) × Int)) := parse_parser_unary_R N parse_parser_expr_r N
/-! ### bauta/parse.node -/
noncomputable def parse_node_3_T (N : Nat) : Tree Unit :=
  .ret ()
noncomputable def parse_node_3 (N : Nat) : Option Unit := (parse_node_3_T N).run some
/-! ### (*bauta/parse.parser).level -/
noncomputable def parse_parser_level_j10_T (N : Nat) (parse_parser_expr_r : Int → Int → (List (Int × (ByteArray × Int))) → Option ((Int × Int × Int) ⊕ (Int × ByteArray × Int × Int × (List Node) × (List ByteArray) × Int))) (parse_parser_level_r : Int → Int → Int → (List (Int × (ByteArray × Int))) → Option ((Int × Int × Int) ⊕ (Int × ByteArray × Int × Int × (List Node) × (List ByteArray) × Int))) (t1 : Int) (t2 : Int) (r0 : Int) (r2a : Int) (r2b : ByteArray) (r2c : Int) (r2d : Int) (r2e : (List Node)) (r2f : (List ByteArray)) (r3 : (List (Int × (ByteArray × Int)))) : Tree ((Int × Int × Int) ⊕ (Int × (List Node))) :=
  let v1 : Int := (IntKind.i64.wrap (t1 + 1))
  .call (parse_parser_level_r v1 t2 r0 r3) fun y2 => (
  .alt y2 (fun y3 => (
    .ret (.inl (y3.1, y3.2.1, y3.2.2)))) (fun y4 => (
    .call (parse_node_3 N) fun y5 => (
    .ret (.inr (y4.2.2.2.2.2.2, [(Node.mk r2a r2b r2c r2d r2e r2f), (Node.mk y4.1 y4.2.1 y4.2.2.1 y4.2.2.2.1 y4.2.2.2.2.1 y4.2.2.2.2.2.1)]))))))
noncomputable def parse_parser_level_j10 (N : Nat) (parse_parser_expr_r : Int → Int → (List (Int × (ByteArray × Int))) → Option ((Int × Int × Int) ⊕ (Int × ByteArray × Int × Int × (List Node) × (List ByteArray) × Int))) (parse_parser_level_r : Int → Int → Int → (List (Int × (ByteArray × Int))) → Option ((Int × Int × Int) ⊕ (Int × ByteArray × Int × Int × (List Node) × (List ByteArray) × Int))) (t1 : Int) (t2 : Int) (r0 : Int) (r2a : Int) (r2b : ByteArray) (r2c : Int) (r2d : Int) (r2e : (List Node)) (r2f : (List ByteArray)) (r3 : (List (Int × (ByteArray × Int)))) : Option ((Int × Int × Int) ⊕ (Int × (List Node))) := (parse_parser_level_j10_T N parse_parser_expr_r parse_parser_level_r t1 t2 r0 r2a r2b r2c r2d r2e r2f r3).run some
noncomputable def parse_parser_level_j7_T (N : Nat) (parse_parser_expr_r : Int → Int → (List (Int × (ByteArray × Int))) → Option ((Int × Int × Int) ⊕ (Int × ByteArray × Int × Int × (List Node) × (List ByteArray) × Int))) (parse_parser_level_r : Int → Int → Int → (List (Int × (ByteArray × Int))) → Option ((Int × Int × Int) ⊕ (Int × ByteArray × Int × Int × (List Node) × (List ByteArray) × Int))) (t1 : Int) (t2 : Int) (r0 : Int) (r2a : Int) (r2b : ByteArray) (r2c : Int) (r2d : Int) (r2e : (List Node)) (r2f : (List ByteArray)) (r3 : (List (Int × (ByteArray × Int)))) : Tree ((Int × Int × Int) ⊕ (Int × Int × (List Node))) :=
  let v1 : Bool := (t1 == 3)
  .br v1 (
    .call (parse_parser_level_j10 N parse_parser_expr_r parse_parser_level_r t1 t2 r0 r2a r2b r2c r2d r2e r2f r3) fun y2 => (
    .alt y2 (fun y3 => (
      .ret (.inl (y3.1, y3.2.1, y3.2.2)))) (fun y4 => (
      .ret (.inr (y4.1, 4, y4.2)))))) (
    .call (parse_parser_level_j10 N parse_parser_expr_r parse_parser_level_r t1 t2 r0 r2a r2b r2c r2d r2e r2f r3) fun y5 => (
    .alt y5 (fun y6 => (
      .ret (.inl (y6.1, y6.2.1, y6.2.2)))) (fun y7 => (
      .ret (.inr (y7.1, 3, y7.2))))))
noncomputable def parse_parser_level_j7 (N : Nat) (parse_parser_expr_r : Int → Int → (List (Int × (ByteArray × Int))) → Option ((Int × Int × Int) ⊕ (Int × ByteArray × Int × Int × (List Node) × (List ByteArray) × Int))) (parse_parser_level_r : Int → Int → Int → (List (Int × (ByteArray × Int))) → Option ((Int × Int × Int) ⊕ (Int × ByteArray × Int × Int × (List Node) × (List ByteArray) × Int))) (t1 : Int) (t2 : Int) (r0 : Int) (r2a : Int) (r2b : ByteArray) (r2c : Int) (r2d : Int) (r2e : (List Node)) (r2f : (List ByteArray)) (r3 : (List (Int × (ByteArray × Int)))) : Option ((Int × Int × Int) ⊕ (Int × Int × (List Node))) := (parse_parser_level_j7_T N parse_parser_expr_r parse_parser_level_r t1 t2 r0 r2a r2b r2c r2d r2e r2f r3).run some
noncomputable def parse_parser_level_l4_T (N : Nat) (parse_parser_expr_r : Int → Int → (List (Int × (ByteArray × Int))) → Option ((Int × Int × Int) ⊕ (Int × ByteArray × Int × Int × (List Node) × (List ByteArray) × Int))) (parse_parser_level_r : Int → Int → Int → (List (Int × (ByteArray × Int))) → Option ((Int × Int × Int) ⊕ (Int × ByteArray × Int × Int × (List Node) × (List ByteArray) × Int))) (t1 : Int) (t2 : Int) (r2d : Int) (r3 : (List (Int × (ByteArray × Int)))) (r0 : Int) (r2a : Int) (r2b : ByteArray) (r2c : Int) (r2e : (List Node)) (r2f : (List ByteArray)) : Tree ((Int × Int × ByteArray × Int × (List Node) × (List ByteArray)) ⊕ ((Int × Int × ByteArray × Int × (List Node) × (List ByteArray)) ⊕ (Int × Int × Int))) :=
  .call (parse_tokens_tok N r0 r3) fun y1 => (
  let v2 : Bool := (y1.2.1.toList == ByteArray.empty.toList)
  .br v2 (
    .ret (.inr (.inl (r0, r2a, r2b, r2c, r2e, r2f)))) (
    .br (inRange t1 5) (
    .call (parse_tokens_goes N [(gstr 0 (t1.toNat * 3 + 0)), (gstr 0 (t1.toNat * 3 + 1)), (gstr 0 (t1.toNat * 3 + 2))] r0 r3) fun y3 => (
    let v4 : Bool := (!y3.1)
    .br v4 (
      .ret (.inr (.inl (y3.2, r2a, r2b, r2c, r2e, r2f)))) (
      .call (parse_parser_level_j7 N parse_parser_expr_r parse_parser_level_r t1 t2 y3.2 r2a r2b r2c r2d r2e r2f r3) fun y5 => (
      .alt y5 (fun y6 => (
        .ret (.inr (.inr (y6.1, y6.2.1, y6.2.2))))) (fun y7 => (
        .ret (.inl (y7.1, y7.2.1, y1.2.1, 0, y7.2.2, [])))))))) .fail))
noncomputable def parse_parser_level_l4 (N : Nat) (parse_parser_expr_r : Int → Int → (List (Int × (ByteArray × Int))) → Option ((Int × Int × Int) ⊕ (Int × ByteArray × Int × Int × (List Node) × (List ByteArray) × Int))) (parse_parser_level_r : Int → Int → Int → (List (Int × (ByteArray × Int))) → Option ((Int × Int × Int) ⊕ (Int × ByteArray × Int × Int × (List Node) × (List ByteArray) × Int))) (t1 : Int) (t2 : Int) (r2d : Int) (r3 : (List (Int × (ByteArray × Int)))) (v : (Int × Int × ByteArray × Int × (List Node) × (List ByteArray))) : Option ((Int × Int × ByteArray × Int × (List Node) × (List ByteArray)) ⊕ (Int × Int × Int)) := loopN (fun v => parse_parser_level_l4_T N parse_parser_expr_r parse_parser_level_r t1 t2 r2d r3 v.1 v.2.1 v.2.2.1 v.2.2.2.1 v.2.2.2.2.1 v.2.2.2.2.2) N v
noncomputable def parse_parser_level_T (N : Nat) (parse_parser_expr_r : Int → Int → (List (Int × (ByteArray × Int))) → Option ((Int × Int × Int) ⊕ (Int × ByteArray × Int × Int × (List Node) × (List ByteArray) × Int))) (parse_parser_level_r : Int → Int → Int → (List (Int × (ByteArray × Int))) → Option ((Int × Int × Int) ⊕ (Int × ByteArray × Int × Int × (List Node) × (List ByteArray) × Int))) (t1 : Int) (t2 : Int) (r0 : Int) (r1 : (List (Int × (ByteArray × Int)))) : Tree ((Int × Int × Int) ⊕ (Int × ByteArray × Int × Int × (List Node) × (List ByteArray) × Int)) :=
  let v1 : Bool := (t1 == 5)
  .br v1 (
    .call (parse_parser_unary N parse_parser_expr_r t2 r0 r1) fun y2 => (
    .alt y2 (fun y3 => (
      .ret (.inl (y3.1, y3.2.1, y3.2.2)))) (fun y4 => (
      .ret (.inr (y4.1, y4.2.1, y4.2.2.1, y4.2.2.2.1, y4.2.2.2.2.1, y4.2.2.2.2.2.1, y4.2.2.2.2.2.2)))))) (
    let v5 : Int := (IntKind.i64.wrap (t1 + 1))
    .call (parse_parser_level_r v5 t2 r0 r1) fun y6 => (
    .alt y6 (fun y7 => (
      .ret (.inl (y7.1, y7.2.1, y7.2.2)))) (fun y8 => (
      .call (parse_parser_level_l4 N parse_parser_expr_r parse_parser_level_r t1 t2 y8.2.2.2.1 r1 (y8.2.2.2.2.2.2, y8.1, y8.2.1, y8.2.2.1, y8.2.2.2.2.1, y8.2.2.2.2.2.1)) fun y9 => (
      .alt y9 (fun y10 => (
        .ret (.inr (y10.2.1, y10.2.2.1, y10.2.2.2.1, y8.2.2.2.1, y10.2.2.2.2.1, y10.2.2.2.2.2, y10.1)))) (fun y11 => (
        .ret (.inl (y11.1, y11.2.1, y11.2.2)))))))))
noncomputable def parse_parser_level_R (N : Nat) (parse_parser_expr_r : Int → Int → (List (Int × (ByteArray × Int))) → Option ((Int × Int × Int) ⊕ (Int × ByteArray × Int × Int × (List Node) × (List ByteArray) × Int))) : Nat → Int → Int → Int → (List (Int × (ByteArray × Int))) → Option ((Int × Int × Int) ⊕ (Int × ByteArray × Int × Int × (List Node) × (List ByteArray) × Int))
  | 0 => fun _ _ _ _ => none
  | k + 1 => fun t1 t2 r0 r1 => (parse_parser_level_T N parse_parser_expr_r (parse_parser_level_R N parse_parser_expr_r k) t1 t2 r0 r1).run some
noncomputable def parse_parser_level (N : Nat) (parse_parser_expr_r : Int → Int → (List (Int × (ByteArray × Int))) → Option ((Int × Int × Int) ⊕ (Int × ByteArray × Int × Int × (List Node) × (List ByteArray) × Int))) : Int → Int → Int → (List (Int × (ByteArray × Int))) → Option ((Int × Int × Int) ⊕ (Int × ByteArray × Int × Int × (List Node) × (List ByteArray) × Int)) := parse_parser_level_R N parse_parser_expr_r N
/-! ### (*bauta/parse.parser).expr -/
noncomputable def parse_parser_expr_T (N : Nat) (parse_parser_expr_r : Int → Int → (List (Int × (ByteArray × Int))) → Option ((Int × Int × Int) ⊕ (Int × ByteArray × Int × Int × (List Node) × (List ByteArray) × Int))) (t1 : Int) (r0 : Int) (r1 : (List (Int × (ByteArray × Int)))) : Tree ((Int × Int × Int) ⊕ (Int × ByteArray × Int × Int × (List Node) × (List ByteArray) × Int)) :=
  .call (parse_parser_deep N t1 r0 r1) fun y1 => (
  .alt y1 (fun y2 => (
    .ret (.inl (y2, 150, r0)))) (fun y3 => (
    .call (parse_parser_level N parse_parser_expr_r 0 t1 r0 r1) fun y4 => (
    .alt y4 (fun y5 => (
      .ret (.inl (y5.1, y5.2.1, y5.2.2)))) (fun y6 => (
      .ret (.inr (y6.1, y6.2.1, y6.2.2.1, y6.2.2.2.1, y6.2.2.2.2.1, y6.2.2.2.2.2.1, y6.2.2.2.2.2.2))))))))
noncomputable def parse_parser_expr_R (N : Nat) : Nat → Int → Int → (List (Int × (ByteArray × Int))) → Option ((Int × Int × Int) ⊕ (Int × ByteArray × Int × Int × (List Node) × (List ByteArray) × Int))
  | 0 => fun _ _ _ => none
  | k + 1 => fun t1 r0 r1 => (parse_parser_expr_T N (parse_parser_expr_R N k) t1 r0 r1).run some
noncomputable def parse_parser_expr (N : Nat) : Int → Int → (List (Int × (ByteArray × Int))) → Option ((Int × Int × Int) ⊕ (Int × ByteArray × Int × Int × (List Node) × (List ByteArray) × Int)) := parse_parser_expr_R N N
/-! ### (*bauta/parse.parser).output -/
noncomputable def parse_parser_output_T (N : Nat) (r0 : Int) (r1 : (List (Int × (ByteArray × Int)))) : Tree ((Int × Int × Int) ⊕ (ByteArray × (List Node) × Int)) :=
  .call (parse_tokens_name N r0 r1) fun y1 => (
  .alt y1 (fun y2 => (
    .ret (.inl (y2, 100, r0)))) (fun y3 => (
    .call (parse_tokens_must N (⟨#[61]⟩ : ByteArray) y3.2 r1) fun y4 => (
    .alt y4 (fun y5 => (
      .ret (.inl (y5.1, 100, y5.2)))) (fun y6 => (
      .call (parse_parser_expr N 0 y6 r1) fun y7 => (
      .alt y7 (fun y8 => (
        .ret (.inl (y8.1, y8.2.1, y8.2.2)))) (fun y9 => (
        .call (parse_tokens_must N (⟨#[59]⟩ : ByteArray) y9.2.2.2.2.2.2 r1) fun y10 => (
        .alt y10 (fun y11 => (
          .ret (.inl (y11.1, 100, y11.2)))) (fun y12 => (
          .call (parse_node_2 N) fun y13 => (
          .ret (.inr (y3.1, [(Node.mk y9.1 y9.2.1 y9.2.2.1 y9.2.2.2.1 y9.2.2.2.2.1 y9.2.2.2.2.2.1)], y12)))))))))))))))
noncomputable def parse_parser_output (N : Nat) (r0 : Int) (r1 : (List (Int × (ByteArray × Int)))) : Option ((Int × Int × Int) ⊕ (ByteArray × (List Node) × Int)) := (parse_parser_output_T N r0 r1).run some
/-! ### (*bauta/parse.parser).inner -/
noncomputable def parse_parser_inner_l15_T (N : Nat) (parse_parser_inner_r : Int → Int → (List (Int × (ByteArray × Int))) → Option ((Int × Int × Int) ⊕ (Int × ByteArray × Int × (List Node) × Int))) (t1 : Int) (r3 : (List (Int × (ByteArray × Int)))) (r0 : Int) (r6 : (List Node)) : Tree ((Int × (List Node)) ⊕ ((Int × Int × Int) ⊕ (Int × (List Node)))) :=
  .call (parse_tokens_goes N [(⟨#[125]⟩ : ByteArray)] r0 r3) fun y1 => (
  let v2 : Bool := (!y1.1)
  .br v2 (
    let v3 : Int := (IntKind.i64.wrap (t1 + 1))
    .call (parse_parser_inner_r v3 y1.2 r3) fun y4 => (
    .alt y4 (fun y5 => (
      .ret (.inr (.inl (y5.1, y5.2.1, y5.2.2))))) (fun y6 => (
      .br (ltI (((r6.length : Int) + 1) * 88) 140737488355328) (
      let v7 : (List Node) := (r6 ++ [(Node.mk y6.1 y6.2.1 0 y6.2.2.1 y6.2.2.2.1 [])])
      .ret (.inl (y6.2.2.2.2, v7))) .fail)))) (
    .ret (.inr (.inr (y1.2, r6)))))
noncomputable def parse_parser_inner_l15 (N : Nat) (parse_parser_inner_r : Int → Int → (List (Int × (ByteArray × Int))) → Option ((Int × Int × Int) ⊕ (Int × ByteArray × Int × (List Node) × Int))) (t1 : Int) (r3 : (List (Int × (ByteArray × Int)))) (v : (Int × (List Node))) : Option ((Int × Int × Int) ⊕ (Int × (List Node))) := loopN (fun v => parse_parser_inner_l15_T N parse_parser_inner_r t1 r3 v.1 v.2) N v
noncomputable def parse_parser_inner_T (N : Nat) (parse_parser_inner_r : Int → Int → (List (Int × (ByteArray × Int))) → Option ((Int × Int × Int) ⊕ (Int × ByteArray × Int × (List Node) × Int))) (t1 : Int) (r0 : Int) (r1 : (List (Int × (ByteArray × Int)))) : Tree ((Int × Int × Int) ⊕ (Int × ByteArray × Int × (List Node) × Int)) :=
  .call (parse_tokens_tok N r0 r1) fun y1 => (
  .call (parse_parser_deep N t1 r0 r1) fun y2 => (
  .alt y2 (fun y3 => (
    .ret (.inl (y3, 150, r0)))) (fun y4 => (
    .call (parse_tokens_goes N [(⟨#[102, 111, 114]⟩ : ByteArray)] r0 r1) fun y5 => (
    let v6 : Bool := (!y5.1)
    .br v6 (
      .call (parse_tokens_name N y5.2 r1) fun y7 => (
      .alt y7 (fun y8 => (
        .ret (.inl (y8, 100, y5.2)))) (fun y9 => (
        .call (parse_tokens_must N (⟨#[61]⟩ : ByteArray) y9.2 r1) fun y10 => (
        .alt y10 (fun y11 => (
          .ret (.inl (y11.1, 100, y11.2)))) (fun y12 => (
          .call (parse_parser_expr N t1 y12 r1) fun y13 => (
          .alt y13 (fun y14 => (
            .ret (.inl (y14.1, y14.2.1, y14.2.2)))) (fun y15 => (
            .call (parse_tokens_must N (⟨#[59]⟩ : ByteArray) y15.2.2.2.2.2.2 r1) fun y16 => (
            .alt y16 (fun y17 => (
              .ret (.inl (y17.1, 100, y17.2)))) (fun y18 => (
              .call (parse_node_2 N) fun y19 => (
              .ret (.inr (10, y9.1, y1.2.2, [(Node.mk y15.1 y15.2.1 y15.2.2.1 y15.2.2.2.1 y15.2.2.2.2.1 y15.2.2.2.2.2.1)], y18)))))))))))))))) (
      .call (parse_tokens_name N y5.2 r1) fun y20 => (
      .alt y20 (fun y21 => (
        .ret (.inl (y21, 100, y5.2)))) (fun y22 => (
        .call (parse_tokens_must N (⟨#[105, 110]⟩ : ByteArray) y22.2 r1) fun y23 => (
        .alt y23 (fun y24 => (
          .ret (.inl (y24.1, 100, y24.2)))) (fun y25 => (
          .call (parse_parser_expr N t1 y25 r1) fun y26 => (
          .alt y26 (fun y27 => (
            .ret (.inl (y27.1, y27.2.1, y27.2.2)))) (fun y28 => (
            .call (parse_tokens_must N (⟨#[46, 46]⟩ : ByteArray) y28.2.2.2.2.2.2 r1) fun y29 => (
            .alt y29 (fun y30 => (
              .ret (.inl (y30.1, 100, y30.2)))) (fun y31 => (
              .call (parse_parser_expr N t1 y31 r1) fun y32 => (
              .alt y32 (fun y33 => (
                .ret (.inl (y33.1, y33.2.1, y33.2.2)))) (fun y34 => (
                .call (parse_node_2 N) fun y35 => (
                .call (parse_tokens_must N (⟨#[123]⟩ : ByteArray) y34.2.2.2.2.2.2 r1) fun y36 => (
                .alt y36 (fun y37 => (
                  .ret (.inl (y37.1, 100, y37.2)))) (fun y38 => (
                  .call (parse_parser_inner_l15 N parse_parser_inner_r t1 r1 (y38, [(Node.mk y28.1 y28.2.1 y28.2.2.1 y28.2.2.2.1 y28.2.2.2.2.1 y28.2.2.2.2.2.1), (Node.mk y34.1 y34.2.1 y34.2.2.1 y34.2.2.2.1 y34.2.2.2.2.1 y34.2.2.2.2.2.1)])) fun y39 => (
                  .alt y39 (fun y40 => (
                    .ret (.inl (y40.1, y40.2.1, y40.2.2)))) (fun y41 => (
                    .ret (.inr (11, y22.1, y1.2.2, y41.2, y41.1))))))))))))))))))))))))))))))
noncomputable def parse_parser_inner_R (N : Nat) : Nat → Int → Int → (List (Int × (ByteArray × Int))) → Option ((Int × Int × Int) ⊕ (Int × ByteArray × Int × (List Node) × Int))
  | 0 => fun _ _ _ => none
  | k + 1 => fun t1 r0 r1 => (parse_parser_inner_T N (parse_parser_inner_R N k) t1 r0 r1).run some
noncomputable def parse_parser_inner (N : Nat) : Int → Int → (List (Int × (ByteArray × Int))) → Option ((Int × Int × Int) ⊕ (Int × ByteArray × Int × (List Node) × Int)) := parse_parser_inner_R N N
/-! ### (*bauta/parse.parser).stmt -/
noncomputable def parse_parser_stmt_j7_T (N : Nat) (r0 : Int) (r3 : (List (Int × (ByteArray × Int)))) : Tree ((Int × Int) ⊕ (Int × (List ByteArray))) :=
  .call (parse_tokens_names N r0 r3) fun y1 => (
  .alt y1 (fun y2 => (
    .ret (.inl (y2.1, y2.2)))) (fun y3 => (
    .call (parse_tokens_must N (⟨#[59]⟩ : ByteArray) y3.2 r3) fun y4 => (
    .alt y4 (fun y5 => (
      .ret (.inl (y5.1, y5.2)))) (fun y6 => (
      .ret (.inr (y6, y3.1))))))))
noncomputable def parse_parser_stmt_j7 (N : Nat) (r0 : Int) (r3 : (List (Int × (ByteArray × Int)))) : Option ((Int × Int) ⊕ (Int × (List ByteArray))) := (parse_parser_stmt_j7_T N r0 r3).run some
noncomputable def parse_parser_stmt_j4_T (N : Nat) (t11 : Bool) (r0 : Int) (r2 : (List (Int × (ByteArray × Int)))) : Tree ((Int × Int × Int) ⊕ (Int × Int × ByteArray × (List ByteArray) × (List Node)) ⊕ (Int × Int × ByteArray × (List Node)) ⊕ Int) :=
  .br t11 (
    .call (parse_node N) fun y1 => (
    let v2 : Int := (IntKind.i64.wrap (r0 - 1))
    .br (inRange v2 r2.length) (
    let v3 : (Int × (ByteArray × Int)) := (r2.getD v2.toNat (0, (ByteArray.empty, 0)))
    let v4 : Bool := (v3.2.1.toList == (⟨#[112, 117, 98, 108, 105, 99]⟩ : ByteArray).toList)
    .br v4 (
      .call (parse_parser_stmt_j7 N r0 r2) fun y5 => (
      .alt y5 (fun y6 => (
        .ret (.inl (y6.1, 100, y6.2)))) (fun y7 => (
        .ret (.inr (.inl (y7.1, 7, ByteArray.empty, y7.2, []))))))) (
      .call (parse_parser_stmt_j7 N r0 r2) fun y8 => (
      .alt y8 (fun y9 => (
        .ret (.inl (y9.1, 100, y9.2)))) (fun y10 => (
        .ret (.inr (.inl (y10.1, 6, ByteArray.empty, y10.2, [])))))))) .fail)) (
    .call (parse_tokens_goes N [(⟨#[111, 117, 116]⟩ : ByteArray)] r0 r2) fun y11 => (
    .br y11.1 (
      .call (parse_parser_output N y11.2 r2) fun y12 => (
      .alt y12 (fun y13 => (
        .ret (.inl (y13.1, y13.2.1, y13.2.2)))) (fun y14 => (
        .ret (.inr (.inr (.inl (y14.2.2, 8, y14.1, y14.2.1)))))))) (
      .call (parse_tokens_goes N [(⟨#[115, 104, 111, 119]⟩ : ByteArray)] y11.2 r2) fun y15 => (
      .br y15.1 (
        .call (parse_parser_output N y15.2 r2) fun y16 => (
        .alt y16 (fun y17 => (
          .ret (.inl (y17.1, y17.2.1, y17.2.2)))) (fun y18 => (
          .ret (.inr (.inr (.inl (y18.2.2, 9, y18.1, y18.2.1)))))))) (
        .call (parse_tokens_goes N [(⟨#[102, 110]⟩ : ByteArray)] y15.2 r2) fun y19 => (
        .br y19.1 (
          .call (parse_tokens_name N y19.2 r2) fun y20 => (
          .alt y20 (fun y21 => (
            .ret (.inl (y21, 100, y19.2)))) (fun y22 => (
            .call (parse_node N) fun y23 => (
            .call (parse_tokens_must N (⟨#[40]⟩ : ByteArray) y22.2 r2) fun y24 => (
            .alt y24 (fun y25 => (
              .ret (.inl (y25.1, 100, y25.2)))) (fun y26 => (
              .call (parse_tokens_names N y26 r2) fun y27 => (
              .alt y27 (fun y28 => (
                .ret (.inl (y28.1, 100, y28.2)))) (fun y29 => (
                .call (parse_tokens_must N (⟨#[41]⟩ : ByteArray) y29.2 r2) fun y30 => (
                .alt y30 (fun y31 => (
                  .ret (.inl (y31.1, 100, y31.2)))) (fun y32 => (
                  .call (parse_tokens_must N (⟨#[61]⟩ : ByteArray) y32 r2) fun y33 => (
                  .alt y33 (fun y34 => (
                    .ret (.inl (y34.1, 100, y34.2)))) (fun y35 => (
                    .call (parse_parser_expr N 0 y35 r2) fun y36 => (
                    .alt y36 (fun y37 => (
                      .ret (.inl (y37.1, y37.2.1, y37.2.2)))) (fun y38 => (
                      let v39 : (List Node) := [(Node.mk y38.1 y38.2.1 y38.2.2.1 y38.2.2.2.1 y38.2.2.2.2.1 y38.2.2.2.2.2.1)]
                      .call (parse_tokens_must N (⟨#[59]⟩ : ByteArray) y38.2.2.2.2.2.2 r2) fun y40 => (
                      .alt y40 (fun y41 => (
                        .ret (.inl (y41.1, 100, y41.2)))) (fun y42 => (
                        .ret (.inr (.inl (y42, 12, y22.1, y29.1, v39)))))))))))))))))))))))))) (
          .ret (.inr (.inr (.inr y19.2))))))))))
noncomputable def parse_parser_stmt_j4 (N : Nat) (t11 : Bool) (r0 : Int) (r2 : (List (Int × (ByteArray × Int)))) : Option ((Int × Int × Int) ⊕ (Int × Int × ByteArray × (List ByteArray) × (List Node)) ⊕ (Int × Int × ByteArray × (List Node)) ⊕ Int) := (parse_parser_stmt_j4_T N t11 r0 r2).run some
noncomputable def parse_parser_stmt_T (N : Nat) (r0 : Int) (r1 : (List (Int × (ByteArray × Int)))) : Tree ((Int × Int × Int) ⊕ (Int × ByteArray × Int × (List Node) × (List ByteArray) × Int)) :=
  .call (parse_tokens_tok N r0 r1) fun y1 => (
  .call (parse_tokens_goes N [(⟨#[115, 101, 99, 114, 101, 116]⟩ : ByteArray)] r0 r1) fun y2 => (
  .br y2.1 (
    .call (parse_parser_stmt_j4 N y2.1 y2.2 r1) fun y3 => (
    .alt y3 (fun y4 => (
      .ret (.inl (y4.1, y4.2.1, y4.2.2)))) (fun y5 => (
      .alt y5 (fun y6 => (
        .ret (.inr (y6.2.1, y6.2.2.1, y1.2.2, y6.2.2.2.2, y6.2.2.2.1, y6.1)))) (fun y7 => (
        .alt y7 (fun y8 => (
          .ret (.inr (y8.2.1, y8.2.2.1, y1.2.2, y8.2.2.2, [], y8.1)))) (fun y9 => (
          .call (parse_parser_inner N 0 y9 r1) fun y10 => (
          .alt y10 (fun y11 => (
            .ret (.inl (y11.1, y11.2.1, y11.2.2)))) (fun y12 => (
            .ret (.inr (y12.1, y12.2.1, y12.2.2.1, y12.2.2.2.1, [], y12.2.2.2.2))))))))))))) (
    .call (parse_tokens_goes N [(⟨#[112, 117, 98, 108, 105, 99]⟩ : ByteArray)] y2.2 r1) fun y13 => (
    .call (parse_parser_stmt_j4 N y13.1 y13.2 r1) fun y14 => (
    .alt y14 (fun y15 => (
      .ret (.inl (y15.1, y15.2.1, y15.2.2)))) (fun y16 => (
      .alt y16 (fun y17 => (
        .ret (.inr (y17.2.1, y17.2.2.1, y1.2.2, y17.2.2.2.2, y17.2.2.2.1, y17.1)))) (fun y18 => (
        .alt y18 (fun y19 => (
          .ret (.inr (y19.2.1, y19.2.2.1, y1.2.2, y19.2.2.2, [], y19.1)))) (fun y20 => (
          .call (parse_parser_inner N 0 y20 r1) fun y21 => (
          .alt y21 (fun y22 => (
            .ret (.inl (y22.1, y22.2.1, y22.2.2)))) (fun y23 => (
            .ret (.inr (y23.1, y23.2.1, y23.2.2.1, y23.2.2.2.1, [], y23.2.2.2.2))))))))))))))))
noncomputable def parse_parser_stmt (N : Nat) (r0 : Int) (r1 : (List (Int × (ByteArray × Int)))) : Option ((Int × Int × Int) ⊕ (Int × ByteArray × Int × (List Node) × (List ByteArray) × Int)) := (parse_parser_stmt_T N r0 r1).run some
/-! ### (*bauta/parse.parser).program -/
noncomputable def parse_parser_program_l2_T (N : Nat) (r3 : (List (Int × (ByteArray × Int)))) (r0 : Int) (r6 : (List Node)) : Tree ((Int × (List Node)) ⊕ ((Int × Int × Int) ⊕ (Int × (List Node)))) :=
  .call (parse_tokens_tok N r0 r3) fun y1 => (
  let v2 : Bool := (y1.1 != 0)
  .br v2 (
    .call (parse_parser_stmt N r0 r3) fun y3 => (
    .alt y3 (fun y4 => (
      .ret (.inr (.inl (y4.1, y4.2.1, y4.2.2))))) (fun y5 => (
      .br (ltI (((r6.length : Int) + 1) * 88) 140737488355328) (
      let v6 : (List Node) := (r6 ++ [(Node.mk y5.1 y5.2.1 0 y5.2.2.1 y5.2.2.2.1 y5.2.2.2.2.1)])
      .ret (.inl (y5.2.2.2.2.2, v6))) .fail)))) (
    .ret (.inr (.inr (r0, r6)))))
noncomputable def parse_parser_program_l2 (N : Nat) (r3 : (List (Int × (ByteArray × Int)))) (v : (Int × (List Node))) : Option ((Int × Int × Int) ⊕ (Int × (List Node))) := loopN (fun v => parse_parser_program_l2_T N r3 v.1 v.2) N v
noncomputable def parse_parser_program_T (N : Nat) (r0 : Int) (r1 : (List (Int × (ByteArray × Int)))) : Tree ((Int × Int × Int) ⊕ (Int × (List Node) × Int)) :=
  .call (parse_tokens_tok N r0 r1) fun y1 => (
  .call (parse_node N) fun y2 => (
  .call (parse_parser_program_l2 N r1 (r0, [])) fun y3 => (
  .alt y3 (fun y4 => (
    .ret (.inl (y4.1, y4.2.1, y4.2.2)))) (fun y5 => (
    .ret (.inr (y1.2.2, y5.2, y5.1)))))))
noncomputable def parse_parser_program (N : Nat) (r0 : Int) (r1 : (List (Int × (ByteArray × Int)))) : Option ((Int × Int × Int) ⊕ (Int × (List Node) × Int)) := (parse_parser_program_T N r0 r1).run some
/-! ### bauta/parse.Parse$1 -/
noncomputable def parse_Parse_1_T (N : Nat) (r0 : Int) (r1 : (List (Int × (ByteArray × Int)))) : Tree ((Int × Int × Int) ⊕ (Int × (List Node) × Int)) :=
  .call (parse_parser_program N r0 r1) fun y1 => (
  .alt y1 (fun y2 => (
    .ret (.inl (y2.1, y2.2.1, y2.2.2)))) (fun y3 => (
    .ret (.inr (y3.1, y3.2.1, y3.2.2)))))
noncomputable def parse_Parse_1 (N : Nat) (r0 : Int) (r1 : (List (Int × (ByteArray × Int)))) : Option ((Int × Int × Int) ⊕ (Int × (List Node) × Int)) := (parse_Parse_1_T N r0 r1).run some
/-! ### bauta/parse.read -/
noncomputable def parse_read_T (N : Nat) (t0 : ByteArray) : Tree ((Int × Int) ⊕ (Int × (List Node))) :=
  .call (lex_Words N t0) fun y1 => (
  let v2 : Bool := (y1.2.1 != 0)
  .br v2 (
    .ret (.inl (y1.1, y1.2.1))) (
    .call (parse_Parse_1 N 0 y1.2.2) fun y3 => (
    .alt y3 (fun y4 => (
      .ret (.inl (y4.1, y4.2.1)))) (fun y5 => (
      .call (parse_tokens_tok N y5.2.2 y1.2.2) fun y6 => (
      let v7 : Bool := (y6.1 != 0)
      .br v7 (
        .call (parse_tokens_fail N y5.2.2 y1.2.2) fun y8 => (
        .ret (.inl (y8, 100)))) (
        .ret (.inr (y5.1, y5.2.1)))))))))
noncomputable def parse_read (N : Nat) (t0 : ByteArray) : Option ((Int × Int) ⊕ (Int × (List Node))) := (parse_read_T N t0).run some
/-! ### bauta/parse.Parse -/
noncomputable def parse_Parse_T (N : Nat) (t0 : ByteArray) : Tree ((Int × Int) ⊕ (Int × (List Node))) :=
  .call (parse_read N t0) fun y1 => (
  .alt y1 (fun y2 => (
    .ret (.inl (y2.1, y2.2)))) (fun y3 => (
    .ret (.inr (y3.1, y3.2)))))
noncomputable def parse_Parse (N : Nat) (t0 : ByteArray) : Option ((Int × Int) ⊕ (Int × (List Node))) := (parse_Parse_T N t0).run some
/-! ### (*bauta/names.checker).fun -/
noncomputable def names_checker_fun_T (N : Nat) (t1 : ByteArray) (r2 : (List (ByteArray × Int))) : Tree Bool :=
  let v2 : Bool := (hasE (eqE .str) t1 r2)
  .ret v2
noncomputable def names_checker_fun (N : Nat) (t1 : ByteArray) (r2 : (List (ByteArray × Int))) : Option Bool := (names_checker_fun_T N t1 r2).run some
/-! ### (*bauta/names.checker).taken -/
noncomputable def names_checker_taken_T (N : Nat) (t1 : ByteArray) (r1 : (List (ByteArray × Int))) (r2 : (List (ByteArray × Int))) : Tree Bool :=
  let v1 : Int := (getE (eqE .str) t1 0 r1)
  let v2 : Bool := (v1 != 0)
  .br v2 (
    .ret true) (
    .call (names_checker_fun N t1 r2) fun y3 => (
    .ret y3))
noncomputable def names_checker_taken (N : Nat) (t1 : ByteArray) (r1 : (List (ByteArray × Int))) (r2 : (List (ByteArray × Int))) : Option Bool := (names_checker_taken_T N t1 r1 r2).run some
/-! ### slices.IndexFunc[[]string,string] -/
noncomputable def slices_IndexFunc_l2_T (N : Nat) (t0 : (List ByteArray)) (t7 : Int) (r1 : (List (ByteArray × Int))) (r2 : (List (ByteArray × Int))) (t8 : Int) : Tree (Int ⊕ (Int ⊕ Unit)) :=
  let v1 : Bool := (ltI t8 t7)
  .br v1 (
    .br (inRange t8 t0.length) (
    let v2 : ByteArray := (t0.getD t8.toNat ByteArray.empty)
    .call (names_checker_taken N v2 r1 r2) fun y3 => (
    .br y3 (
      .ret (.inr (.inl t8))) (
      let v4 : Int := (IntKind.i64.wrap (t8 + 1))
      .ret (.inl v4)))) .fail) (
    .ret (.inr (.inr ())))
noncomputable def slices_IndexFunc_l2 (N : Nat) (t0 : (List ByteArray)) (t7 : Int) (r1 : (List (ByteArray × Int))) (r2 : (List (ByteArray × Int))) (v : Int) : Option (Int ⊕ Unit) := loopN (fun v => slices_IndexFunc_l2_T N t0 t7 r1 r2 v) N v
noncomputable def slices_IndexFunc_T (N : Nat) (t0 : (List ByteArray)) (r1 : (List (ByteArray × Int))) (r2 : (List (ByteArray × Int))) : Tree Int :=
  let v1 : Int := (t0.length : Int)
  .call (slices_IndexFunc_l2 N t0 v1 r1 r2 0) fun y2 => (
  .alt y2 (fun y3 => (
    .ret y3)) (fun y4 => (
    .ret (-1))))
noncomputable def slices_IndexFunc (N : Nat) (t0 : (List ByteArray)) (r1 : (List (ByteArray × Int))) (r2 : (List (ByteArray × Int))) : Option Int := (slices_IndexFunc_T N t0 r1 r2).run some
/-! ### slices.ContainsFunc[[]string,string] -/
noncomputable def slices_ContainsFunc_T (N : Nat) (t0 : (List ByteArray)) (r1 : (List (ByteArray × Int))) (r2 : (List (ByteArray × Int))) : Tree Bool :=
  .call (slices_IndexFunc N t0 r1 r2) fun y1 => (
  let v2 : Bool := (leI 0 y1)
  .ret v2)
noncomputable def slices_ContainsFunc (N : Nat) (t0 : (List ByteArray)) (r1 : (List (ByteArray × Int))) (r2 : (List (ByteArray × Int))) : Option Bool := (slices_ContainsFunc_T N t0 r1 r2).run some
/-! ### slices.Clone[[]string,string] -/
noncomputable def slices_Clone_T (N : Nat) (t0 : (List ByteArray)) : Tree (List ByteArray) :=
  .br t0.isEmpty (
    .any (
      .ret []) (
      .br (ltI ((0 + (t0.length : Int)) * 16) 140737488355328) (
      .ret t0) .fail)) (
    .br (ltI ((0 + (t0.length : Int)) * 16) 140737488355328) (
    .ret t0) .fail)
noncomputable def slices_Clone (N : Nat) (t0 : (List ByteArray)) : Option (List ByteArray) := (slices_Clone_T N t0).run some
/-! ### slices.Sort[[]string,string] -/
/-! ### slices.Compact[[]string,string] -/
noncomputable def slices_Compact_l9_T (N : Nat) (t4a : Nat) (t4b : Nat) (t3 : Int) (t5 : Int) (r0 : (List ByteArray)) : Tree ((Int × Int × (List ByteArray)) ⊕ (Int × (List ByteArray))) :=
  let v1 : Int := (t4b : Int)
  let v2 : Bool := (ltI t5 v1)
  .br v2 (
    .br (inRange t5 t4b) (
    let v3 : ByteArray := (r0.getD (t4a + t5.toNat) ByteArray.empty)
    let v4 : Int := (IntKind.i64.wrap (t5 - 1))
    .br (inRange v4 t4b) (
    let v5 : ByteArray := (r0.getD (t4a + v4.toNat) ByteArray.empty)
    let v6 : Bool := (!(v3.toList == v5.toList))
    .br v6 (
      .br (inRange t5 t4b) (
      let v7 : ByteArray := (r0.getD (t4a + t5.toNat) ByteArray.empty)
      .br (inRange t3 r0.length) (
      let v8 : (List ByteArray) := (r0.set t3.toNat v7)
      let v9 : Int := (IntKind.i64.wrap (t3 + 1))
      let v10 : Int := (IntKind.i64.wrap (t5 + 1))
      .ret (.inl (v9, v10, v8))) .fail) .fail) (
      let v11 : Int := (IntKind.i64.wrap (t5 + 1))
      .ret (.inl (t3, v11, r0)))) .fail) .fail) (
    .ret (.inr (t3, r0)))
noncomputable def slices_Compact_l9 (N : Nat) (t4a : Nat) (t4b : Nat) (v : (Int × Int × (List ByteArray))) : Option (Int × (List ByteArray)) := loopN (fun v => slices_Compact_l9_T N t4a t4b v.1 v.2.1 v.2.2) N v
noncomputable def slices_Compact_l4_T (N : Nat) (r0 : (List ByteArray)) (t3 : Int) : Tree (Int ⊕ ((Nat × (List ByteArray)) ⊕ Unit)) :=
  let v1 : Int := (r0.length : Int)
  let v2 : Bool := (ltI t3 v1)
  .br v2 (
    .br (inRange t3 r0.length) (
    let v3 : ByteArray := (r0.getD t3.toNat ByteArray.empty)
    let v4 : Int := (IntKind.i64.wrap (t3 - 1))
    .br (inRange v4 r0.length) (
    let v5 : ByteArray := (r0.getD v4.toNat ByteArray.empty)
    let v6 : Bool := (v3.toList == v5.toList)
    .br v6 (
      .br (leI 0 t3 && leI t3 (r0.length : Int)) (
      .call (slices_Compact_l9 N t3.toNat (r0.length - t3.toNat) (t3, 1, r0)) fun y7 => (
      .br (leI 0 y7.1 && leI y7.1 (y7.2.length : Int)) (
      let v8 : (List ByteArray) := (y7.2.take y7.1.toNat ++ (List.replicate (y7.2.length - y7.1.toNat) ByteArray.empty ++ y7.2.drop (y7.1.toNat + (y7.2.length - y7.1.toNat))))
      .br (leI 0 y7.1 && leI y7.1 (v8.length : Int)) (
      .ret (.inr (.inl (y7.1.toNat, v8)))) .fail) .fail)) .fail) (
      let v9 : Int := (IntKind.i64.wrap (t3 + 1))
      .ret (.inl v9))) .fail) .fail) (
    .ret (.inr (.inr ())))
noncomputable def slices_Compact_l4 (N : Nat) (r0 : (List ByteArray)) (v : Int) : Option ((Nat × (List ByteArray)) ⊕ Unit) := loopN (fun v => slices_Compact_l4_T N r0 v) N v
noncomputable def slices_Compact_T (N : Nat) (r0 : (List ByteArray)) : Tree (Unit ⊕ (Nat × (List ByteArray))) :=
  let v1 : Int := (r0.length : Int)
  let v2 : Bool := (ltI v1 2)
  .br v2 (
    .ret (.inl ())) (
    .call (slices_Compact_l4 N r0 1) fun y3 => (
    .alt y3 (fun y4 => (
      .ret (.inr (y4.1, y4.2)))) (fun y5 => (
      .ret (.inl ())))))
noncomputable def slices_Compact (N : Nat) (r0 : (List ByteArray)) : Option (Unit ⊕ (Nat × (List ByteArray))) := (slices_Compact_T N r0).run some
/-! ### bauta/names.twice -/
noncomputable def names_twice_T (N : Nat) (t0 : (List ByteArray)) : Tree Bool :=
  .call (slices_Clone N t0) fun y1 => (
  .call (slices_Sort N y1) fun y2 => (
  let v3 : Int := (y2.length : Int)
  .call (slices_Compact N y2) fun y4 => (
  .alt y4 (fun y5 => (
    let v7 : Int := (y2.length : Int)
    let v8 : Bool := (ltI v7 v3)
    .ret v8)) (fun y6 => (
    let v9 : Int := (y6.1 : Int)
    let v10 : Bool := (ltI v9 v3)
    .ret v10)))))
noncomputable def names_twice (N : Nat) (t0 : (List ByteArray)) : Option Bool := (names_twice_T N t0).run some
/-! ### slices.Index[[]bool,bool] -/
noncomputable def slices_Index_2_l2_T (N : Nat) (t0 : (List Bool)) (t1 : Bool) (t7 : Int) (t8 : Int) : Tree (Int ⊕ (Int ⊕ Unit)) :=
  let v1 : Bool := (ltI t8 t7)
  .br v1 (
    .br (inRange t8 t0.length) (
    let v2 : Bool := (t0.getD t8.toNat false)
    let v3 : Bool := (t1 == v2)
    .br v3 (
      .ret (.inr (.inl t8))) (
      let v4 : Int := (IntKind.i64.wrap (t8 + 1))
      .ret (.inl v4))) .fail) (
    .ret (.inr (.inr ())))
noncomputable def slices_Index_2_l2 (N : Nat) (t0 : (List Bool)) (t1 : Bool) (t7 : Int) (v : Int) : Option (Int ⊕ Unit) := loopN (fun v => slices_Index_2_l2_T N t0 t1 t7 v) N v
noncomputable def slices_Index_2_T (N : Nat) (t0 : (List Bool)) (t1 : Bool) : Tree Int :=
  let v1 : Int := (t0.length : Int)
  .call (slices_Index_2_l2 N t0 t1 v1 0) fun y2 => (
  .alt y2 (fun y3 => (
    .ret y3)) (fun y4 => (
    .ret (-1))))
noncomputable def slices_Index_2 (N : Nat) (t0 : (List Bool)) (t1 : Bool) : Option Int := (slices_Index_2_T N t0 t1).run some
/-! ### slices.Contains[[]bool,bool] -/
noncomputable def slices_Contains_2_T (N : Nat) (t0 : (List Bool)) (t1 : Bool) : Tree Bool :=
  .call (slices_Index_2 N t0 t1) fun y1 => (
  let v2 : Bool := (leI 0 y1)
  .ret v2)
noncomputable def slices_Contains_2 (N : Nat) (t0 : (List Bool)) (t1 : Bool) : Option Bool := (slices_Contains_2_T N t0 t1).run some
/-! ### bauta/names.wrong -/
noncomputable def names_wrong_T (N : Nat) (t1 : (List Bool)) : Tree (Unit ⊕ Unit) :=
  .call (slices_Contains_2 N t1 true) fun y1 => (
  .br y1 (
    .ret (.inl ())) (
    .ret (.inr ())))
noncomputable def names_wrong (N : Nat) (t1 : (List Bool)) : Option (Unit ⊕ Unit) := (names_wrong_T N t1).run some
/-! ### (*bauta/names.checker).inputs -/
noncomputable def names_checker_inputs_l3_T (N : Nat) (t20 : (List ByteArray)) (t21 : Int) (t22 : Int) (r1 : (List (ByteArray × Int))) : Tree ((Int × (List (ByteArray × Int))) ⊕ (List (ByteArray × Int))) :=
  let v1 : Bool := (ltI t22 t21)
  .br v1 (
    .br (inRange t22 t20.length) (
    let v2 : ByteArray := (t20.getD t22.toNat ByteArray.empty)
    let v3 : (List (ByteArray × Int)) := (setE (eqE .str) v2 1 r1)
    let v4 : Int := (IntKind.i64.wrap (t22 + 1))
    .ret (.inl (v4, v3))) .fail) (
    .ret (.inr r1))
noncomputable def names_checker_inputs_l3 (N : Nat) (t20 : (List ByteArray)) (t21 : Int) (v : (Int × (List (ByteArray × Int)))) : Option (List (ByteArray × Int)) := loopN (fun v => names_checker_inputs_l3_T N t20 t21 v.1 v.2) N v
noncomputable def names_checker_inputs_T (N : Nat) (t1f : (List ByteArray)) (r1 : (List (ByteArray × Int))) (r2 : (List (ByteArray × Int))) (r5 : (List ByteArray)) : Tree (Unit ⊕ ((List (ByteArray × Int)) × (List ByteArray))) :=
  .call (slices_ContainsFunc N t1f r1 r2) fun y1 => (
  .call (names_twice N t1f) fun y2 => (
  .call (names_wrong N [y1, y2]) fun y3 => (
  .alt y3 (fun y4 => (
    .ret (.inl ()))) (fun y5 => (
    let v6 : Int := (t1f.length : Int)
    .call (names_checker_inputs_l3 N t1f v6 (0, r1)) fun y7 => (
    .br (ltI (((r5.length : Int) + (t1f.length : Int)) * 16) 140737488355328) (
    let v8 : (List ByteArray) := (r5 ++ t1f)
    .ret (.inr (y7, v8))) .fail))))))
noncomputable def names_checker_inputs (N : Nat) (t1f : (List ByteArray)) (r1 : (List (ByteArray × Int))) (r2 : (List (ByteArray × Int))) (r5 : (List ByteArray)) : Option (Unit ⊕ ((List (ByteArray × Int)) × (List ByteArray))) := (names_checker_inputs_T N t1f r1 r2 r5).run some
/-! ### (*bauta/names.checker).inputs -/
noncomputable def names_checker_inputs_2_l3_T (N : Nat) (t20 : (List ByteArray)) (t21 : Int) (t22 : Int) (r1 : (List (ByteArray × Int))) : Tree ((Int × (List (ByteArray × Int))) ⊕ (List (ByteArray × Int))) :=
  let v1 : Bool := (ltI t22 t21)
  .br v1 (
    .br (inRange t22 t20.length) (
    let v2 : ByteArray := (t20.getD t22.toNat ByteArray.empty)
    let v3 : (List (ByteArray × Int)) := (setE (eqE .str) v2 1 r1)
    let v4 : Int := (IntKind.i64.wrap (t22 + 1))
    .ret (.inl (v4, v3))) .fail) (
    .ret (.inr r1))
noncomputable def names_checker_inputs_2_l3 (N : Nat) (t20 : (List ByteArray)) (t21 : Int) (v : (Int × (List (ByteArray × Int)))) : Option (List (ByteArray × Int)) := loopN (fun v => names_checker_inputs_2_l3_T N t20 t21 v.1 v.2) N v
noncomputable def names_checker_inputs_2_T (N : Nat) (t1f : (List ByteArray)) (r1 : (List (ByteArray × Int))) (r2 : (List (ByteArray × Int))) (r4 : (List ByteArray)) : Tree (Unit ⊕ ((List (ByteArray × Int)) × (List ByteArray))) :=
  .call (slices_ContainsFunc N t1f r1 r2) fun y1 => (
  .call (names_twice N t1f) fun y2 => (
  .call (names_wrong N [y1, y2]) fun y3 => (
  .alt y3 (fun y4 => (
    .ret (.inl ()))) (fun y5 => (
    let v6 : Int := (t1f.length : Int)
    .call (names_checker_inputs_2_l3 N t1f v6 (0, r1)) fun y7 => (
    .br (ltI (((r4.length : Int) + (t1f.length : Int)) * 16) 140737488355328) (
    let v8 : (List ByteArray) := (r4 ++ t1f)
    .ret (.inr (y7, v8))) .fail))))))
noncomputable def names_checker_inputs_2 (N : Nat) (t1f : (List ByteArray)) (r1 : (List (ByteArray × Int))) (r2 : (List (ByteArray × Int))) (r4 : (List ByteArray)) : Option (Unit ⊕ ((List (ByteArray × Int)) × (List ByteArray))) := (names_checker_inputs_2_T N t1f r1 r2 r4).run some
/-! ### slices.IndexFunc[[]string,string] -/
noncomputable def slices_IndexFunc_2_l2_T (N : Nat) (t0 : (List ByteArray)) (t7 : Int) (r2 : (List (ByteArray × Int))) (t8 : Int) : Tree (Int ⊕ (Int ⊕ Unit)) :=
  let v1 : Bool := (ltI t8 t7)
  .br v1 (
    .br (inRange t8 t0.length) (
    let v2 : ByteArray := (t0.getD t8.toNat ByteArray.empty)
    .call (names_checker_fun N v2 r2) fun y3 => (
    .br y3 (
      .ret (.inr (.inl t8))) (
      let v4 : Int := (IntKind.i64.wrap (t8 + 1))
      .ret (.inl v4)))) .fail) (
    .ret (.inr (.inr ())))
noncomputable def slices_IndexFunc_2_l2 (N : Nat) (t0 : (List ByteArray)) (t7 : Int) (r2 : (List (ByteArray × Int))) (v : Int) : Option (Int ⊕ Unit) := loopN (fun v => slices_IndexFunc_2_l2_T N t0 t7 r2 v) N v
noncomputable def slices_IndexFunc_2_T (N : Nat) (t0 : (List ByteArray)) (r2 : (List (ByteArray × Int))) : Tree Int :=
  let v1 : Int := (t0.length : Int)
  .call (slices_IndexFunc_2_l2 N t0 v1 r2 0) fun y2 => (
  .alt y2 (fun y3 => (
    .ret y3)) (fun y4 => (
    .ret (-1))))
noncomputable def slices_IndexFunc_2 (N : Nat) (t0 : (List ByteArray)) (r2 : (List (ByteArray × Int))) : Option Int := (slices_IndexFunc_2_T N t0 r2).run some
/-! ### slices.ContainsFunc[[]string,string] -/
noncomputable def slices_ContainsFunc_2_T (N : Nat) (t0 : (List ByteArray)) (r2 : (List (ByteArray × Int))) : Tree Bool :=
  .call (slices_IndexFunc_2 N t0 r2) fun y1 => (
  let v2 : Bool := (leI 0 y1)
  .ret v2)
noncomputable def slices_ContainsFunc_2 (N : Nat) (t0 : (List ByteArray)) (r2 : (List (ByteArray × Int))) : Option Bool := (slices_ContainsFunc_2_T N t0 r2).run some
/-! ### (*bauta/names.checker).expr -/
noncomputable def names_checker_expr_l7_T (N : Nat) (names_checker_expr_r : Int → ByteArray → Int → Int → (List Node) → (List ByteArray) → (List (ByteArray × Int)) → (List (ByteArray × Int)) → (List (ByteArray × (Bool × Bool))) → (List ByteArray) → (List ByteArray) → Option (Int ⊕ Unit)) (t45 : (List Node)) (t46 : Int) (r1 : (List (ByteArray × Int))) (r2 : (List (ByteArray × Int))) (r3 : (List ByteArray)) (r4 : (List ByteArray)) (r5 : (List (ByteArray × (Bool × Bool)))) (t47 : Int) : Tree (Int ⊕ (Int ⊕ Unit)) :=
  let v1 : Bool := (ltI t47 t46)
  .br v1 (
    .br (inRange t47 t45.length) (
    let v2 : Node := (t45.getD t47.toNat (Node.mk 0 ByteArray.empty 0 0 [] []))
    .call (names_checker_expr_r (Node.k v2) (Node.s v2) (Node.n v2) (Node.a v2) (Node.l v2) (Node.p v2) r1 r2 r5 r4 r3) fun y3 => (
    .alt y3 (fun y4 => (
      .ret (.inr (.inl y4)))) (fun y5 => (
      let v6 : Int := (IntKind.i64.wrap (t47 + 1))
      .ret (.inl v6))))) .fail) (
    .ret (.inr (.inr ())))
noncomputable def names_checker_expr_l7 (N : Nat) (names_checker_expr_r : Int → ByteArray → Int → Int → (List Node) → (List ByteArray) → (List (ByteArray × Int)) → (List (ByteArray × Int)) → (List (ByteArray × (Bool × Bool))) → (List ByteArray) → (List ByteArray) → Option (Int ⊕ Unit)) (t45 : (List Node)) (t46 : Int) (r1 : (List (ByteArray × Int))) (r2 : (List (ByteArray × Int))) (r3 : (List ByteArray)) (r4 : (List ByteArray)) (r5 : (List (ByteArray × (Bool × Bool)))) (v : Int) : Option (Int ⊕ Unit) := loopN (fun v => names_checker_expr_l7_T N names_checker_expr_r t45 t46 r1 r2 r3 r4 r5 v) N v
noncomputable def names_checker_expr_j6_T (N : Nat) (names_checker_expr_r : Int → ByteArray → Int → Int → (List Node) → (List ByteArray) → (List (ByteArray × Int)) → (List (ByteArray × Int)) → (List (ByteArray × (Bool × Bool))) → (List ByteArray) → (List ByteArray) → Option (Int ⊕ Unit)) (r1 : (List (ByteArray × Int))) (r2 : (List (ByteArray × Int))) (r3e : (List Node)) (r4 : (List ByteArray)) (r5 : (List ByteArray)) (r6 : (List (ByteArray × (Bool × Bool)))) : Tree (Int ⊕ Unit) :=
  let v1 : Int := (r3e.length : Int)
  .call (names_checker_expr_l7 N names_checker_expr_r r3e v1 r1 r2 r4 r5 r6 0) fun y2 => (
  .alt y2 (fun y3 => (
    .ret (.inl y3))) (fun y4 => (
    .ret (.inr ()))))
noncomputable def names_checker_expr_j6 (N : Nat) (names_checker_expr_r : Int → ByteArray → Int → Int → (List Node) → (List ByteArray) → (List (ByteArray × Int)) → (List (ByteArray × Int)) → (List (ByteArray × (Bool × Bool))) → (List ByteArray) → (List ByteArray) → Option (Int ⊕ Unit)) (r1 : (List (ByteArray × Int))) (r2 : (List (ByteArray × Int))) (r3e : (List Node)) (r4 : (List ByteArray)) (r5 : (List ByteArray)) (r6 : (List (ByteArray × (Bool × Bool)))) : Option (Int ⊕ Unit) := (names_checker_expr_j6_T N names_checker_expr_r r1 r2 r3e r4 r5 r6).run some
noncomputable def names_checker_expr_T (N : Nat) (names_checker_expr_r : Int → ByteArray → Int → Int → (List Node) → (List ByteArray) → (List (ByteArray × Int)) → (List (ByteArray × Int)) → (List (ByteArray × (Bool × Bool))) → (List ByteArray) → (List ByteArray) → Option (Int ⊕ Unit)) (t1a : Int) (t1b : ByteArray) (t1c : Int) (t1d : Int) (t1e : (List Node)) (t1f : (List ByteArray)) (r1 : (List (ByteArray × Int))) (r2 : (List (ByteArray × Int))) (r3 : (List (ByteArray × (Bool × Bool)))) (r4 : (List ByteArray)) (r5 : (List ByteArray)) : Tree (Int ⊕ Unit) :=
  let v1 : Bool := (t1a == 1)
  .br v1 (
    let v2 : Int := (getE (eqE .str) t1b 0 r1)
    let v3 : Bool := (v2 == 0)
    .call (names_wrong N [v3]) fun y4 => (
    .alt y4 (fun y5 => (
      .ret (.inl t1d))) (fun y6 => (
      .call (names_checker_expr_j6 N names_checker_expr_r r1 r2 t1e r5 r4 r3) fun y7 => (
      .alt y7 (fun y8 => (
        .ret (.inl y8))) (fun y9 => (
        .ret (.inr ())))))))) (
    let v10 : Bool := (t1a == 5)
    .br v10 (
      .call (names_checker_fun N t1b r2) fun y11 => (
      let v12 : Bool := (!y11)
      .br v12 (
        .call (names_wrong N [true]) fun y13 => (
        .alt y13 (fun y14 => (
          .ret (.inl t1d))) (fun y15 => (
          .call (names_checker_expr_j6 N names_checker_expr_r r1 r2 t1e r5 r4 r3) fun y16 => (
          .alt y16 (fun y17 => (
            .ret (.inl y17))) (fun y18 => (
            .ret (.inr ())))))))) (
        let v19 : Int := (getE (eqE .str) t1b 0 r2)
        let v20 : Int := (t1e.length : Int)
        let v21 : Bool := (v19 != v20)
        .call (names_wrong N [v21]) fun y22 => (
        .alt y22 (fun y23 => (
          .ret (.inl t1d))) (fun y24 => (
          .call (names_checker_expr_j6 N names_checker_expr_r r1 r2 t1e r5 r4 r3) fun y25 => (
          .alt y25 (fun y26 => (
            .ret (.inl y26))) (fun y27 => (
            .ret (.inr ())))))))))) (
      .call (names_checker_expr_j6 N names_checker_expr_r r1 r2 t1e r5 r4 r3) fun y28 => (
      .alt y28 (fun y29 => (
        .ret (.inl y29))) (fun y30 => (
        .ret (.inr ()))))))
noncomputable def names_checker_expr_R (N : Nat) : Nat → Int → ByteArray → Int → Int → (List Node) → (List ByteArray) → (List (ByteArray × Int)) → (List (ByteArray × Int)) → (List (ByteArray × (Bool × Bool))) → (List ByteArray) → (List ByteArray) → Option (Int ⊕ Unit)
  | 0 => fun _ _ _ _ _ _ _ _ _ _ _ => none
  | k + 1 => fun t1a t1b t1c t1d t1e t1f r1 r2 r3 r4 r5 => (names_checker_expr_T N (names_checker_expr_R N k) t1a t1b t1c t1d t1e t1f r1 r2 r3 r4 r5).run some
noncomputable def names_checker_expr (N : Nat) : Int → ByteArray → Int → Int → (List Node) → (List ByteArray) → (List (ByteArray × Int)) → (List (ByteArray × Int)) → (List (ByteArray × (Bool × Bool))) → (List ByteArray) → (List ByteArray) → Option (Int ⊕ Unit) := names_checker_expr_R N N
/-! ### (*bauta/names.checker).exprs -/
noncomputable def names_checker_exprs_l1_T (N : Nat) (t6 : (List Node)) (t7 : Int) (r1 : (List (ByteArray × Int))) (r2 : (List (ByteArray × Int))) (r3 : (List ByteArray)) (r4 : (List ByteArray)) (r5 : (List (ByteArray × (Bool × Bool)))) (t8 : Int) : Tree (Int ⊕ (Int ⊕ Unit)) :=
  let v1 : Bool := (ltI t8 t7)
  .br v1 (
    .br (inRange t8 t6.length) (
    let v2 : Node := (t6.getD t8.toNat (Node.mk 0 ByteArray.empty 0 0 [] []))
    .call (names_checker_expr N (Node.k v2) (Node.s v2) (Node.n v2) (Node.a v2) (Node.l v2) (Node.p v2) r1 r2 r5 r4 r3) fun y3 => (
    .alt y3 (fun y4 => (
      .ret (.inr (.inl y4)))) (fun y5 => (
      let v6 : Int := (IntKind.i64.wrap (t8 + 1))
      .ret (.inl v6))))) .fail) (
    .ret (.inr (.inr ())))
noncomputable def names_checker_exprs_l1 (N : Nat) (t6 : (List Node)) (t7 : Int) (r1 : (List (ByteArray × Int))) (r2 : (List (ByteArray × Int))) (r3 : (List ByteArray)) (r4 : (List ByteArray)) (r5 : (List (ByteArray × (Bool × Bool)))) (v : Int) : Option (Int ⊕ Unit) := loopN (fun v => names_checker_exprs_l1_T N t6 t7 r1 r2 r3 r4 r5 v) N v
noncomputable def names_checker_exprs_T (N : Nat) (t1 : (List Node)) (r1 : (List (ByteArray × Int))) (r2 : (List (ByteArray × Int))) (r3 : (List (ByteArray × (Bool × Bool)))) (r4 : (List ByteArray)) (r5 : (List ByteArray)) : Tree (Int ⊕ Unit) :=
  let v1 : Int := (t1.length : Int)
  .call (names_checker_exprs_l1 N t1 v1 r1 r2 r5 r4 r3 0) fun y2 => (
  .alt y2 (fun y3 => (
    .ret (.inl y3))) (fun y4 => (
    .ret (.inr ()))))
noncomputable def names_checker_exprs (N : Nat) (t1 : (List Node)) (r1 : (List (ByteArray × Int))) (r2 : (List (ByteArray × Int))) (r3 : (List (ByteArray × (Bool × Bool)))) (r4 : (List ByteArray)) (r5 : (List ByteArray)) : Option (Int ⊕ Unit) := (names_checker_exprs_T N t1 r1 r2 r3 r4 r5).run some
/-! ### (*bauta/names.checker).function -/
noncomputable def names_checker_function_l4_T (N : Nat) (t35 : (List ByteArray)) (t36 : Int) (t37 : Int) (r8 : (List (ByteArray × Int))) : Tree ((Int × (List (ByteArray × Int))) ⊕ (List (ByteArray × Int))) :=
  let v1 : Bool := (ltI t37 t36)
  .br v1 (
    .br (inRange t37 t35.length) (
    let v2 : ByteArray := (t35.getD t37.toNat ByteArray.empty)
    let v3 : (List (ByteArray × Int)) := (setE (eqE .str) v2 2 r8)
    let v4 : Int := (IntKind.i64.wrap (t37 + 1))
    .ret (.inl (v4, v3))) .fail) (
    .ret (.inr r8))
noncomputable def names_checker_function_l4 (N : Nat) (t35 : (List ByteArray)) (t36 : Int) (v : (Int × (List (ByteArray × Int)))) : Option (List (ByteArray × Int)) := loopN (fun v => names_checker_function_l4_T N t35 t36 v.1 v.2) N v
noncomputable def names_checker_function_T (N : Nat) (t1b : ByteArray) (t1d : Int) (t1e : (List Node)) (t1f : (List ByteArray)) (r1 : (List (ByteArray × Int))) (r2 : (List (ByteArray × Int))) : Tree (Int ⊕ (List (ByteArray × Int))) :=
  .call (names_checker_taken N t1b r1 r2) fun y1 => (
  .call (names_twice N t1f) fun y2 => (
  .call (slices_ContainsFunc_2 N t1f r2) fun y3 => (
  .call (slices_Contains N t1f t1b) fun y4 => (
  .call (names_wrong N [y1, y2, y3, y4]) fun y5 => (
  .alt y5 (fun y6 => (
    .ret (.inl t1d))) (fun y7 => (
    let v8 : Int := (t1f.length : Int)
    .call (names_checker_function_l4 N t1f v8 (0, [])) fun y9 => (
    .call (names_checker_exprs N t1e y9 r2 [] [] []) fun y10 => (
    .alt y10 (fun y11 => (
      .ret (.inl y11))) (fun y12 => (
      let v13 : Int := (t1f.length : Int)
      let v14 : (List (ByteArray × Int)) := (setE (eqE .str) t1b v13 r2)
      .ret (.inr v14))))))))))))
noncomputable def names_checker_function (N : Nat) (t1b : ByteArray) (t1d : Int) (t1e : (List Node)) (t1f : (List ByteArray)) (r1 : (List (ByteArray × Int))) (r2 : (List (ByteArray × Int))) : Option (Int ⊕ (List (ByteArray × Int))) := (names_checker_function_T N t1b t1d t1e t1f r1 r2).run some
/-! ### maps.Clone[map[string]int,string,int] -/
noncomputable def maps_Clone_T (N : Nat) : Tree Unit :=
  .ret ()
noncomputable def maps_Clone (N : Nat) : Option Unit := (maps_Clone_T N).run some
/-! ### (*bauta/names.checker).loop -/
noncomputable def names_checker_loop_T (N : Nat) (names_checker_stmts_r : (List Node) → (List (ByteArray × Int)) → (List (ByteArray × Int)) → (List (ByteArray × (Bool × Bool))) → (List ByteArray) → (List ByteArray) → Option ((Int × (List (ByteArray × Int)) × (List (ByteArray × Int)) × (List ByteArray) × (List ByteArray) × (List (ByteArray × (Bool × Bool)))) ⊕ ((List (ByteArray × Int)) × (List (ByteArray × Int)) × (List ByteArray) × (List ByteArray) × (List (ByteArray × (Bool × Bool)))))) (t1b : ByteArray) (t1d : Int) (t1e : (List Node)) (r1 : (List (ByteArray × Int))) (r2 : (List (ByteArray × Int))) (r3 : (List (ByteArray × (Bool × Bool)))) (r4 : (List ByteArray)) (r5 : (List ByteArray)) : Tree ((Int × (List (ByteArray × Int)) × (List (ByteArray × Int)) × (List ByteArray) × (List ByteArray) × (List (ByteArray × (Bool × Bool)))) ⊕ ((List (ByteArray × Int)) × (List ByteArray) × (List ByteArray) × (List (ByteArray × (Bool × Bool))))) :=
  let v1 : Int := (t1e.length : Int)
  let v2 : Int := (if 2 < v1 then 2 else v1)
  .br (leI 0 v2 && leI v2 (t1e.length : Int)) (
  let v3 : (List Node) := (t1e.take v2.toNat)
  .call (names_checker_exprs N v3 r1 r2 r3 r4 r5) fun y4 => (
  .alt y4 (fun y5 => (
    .ret (.inl (y5, r1, r2, r5, r4, r3)))) (fun y6 => (
    .call (names_checker_taken N t1b r1 r2) fun y7 => (
    .call (names_wrong N [y7]) fun y8 => (
    .alt y8 (fun y9 => (
      .ret (.inl (t1d, r1, r2, r5, r4, r3)))) (fun y10 => (
      .call (maps_Clone N) fun y11 => (
      let v12 : (List (ByteArray × Int)) := (setE (eqE .str) t1b 3 r1)
      .br (leI 0 v2 && leI v2 (t1e.length : Int)) (
      let v13 : (List Node) := (t1e.drop v2.toNat)
      .call (names_checker_stmts_r v13 v12 r2 r3 r4 r5) fun y14 => (
      .alt y14 (fun y15 => (
        .ret (.inl (y15.1, y15.2.1, y15.2.2.1, y15.2.2.2.1, y15.2.2.2.2.1, y15.2.2.2.2.2)))) (fun y16 => (
        .ret (.inr (y16.2.1, y16.2.2.1, y16.2.2.2.1, y16.2.2.2.2)))))) .fail))))))))) .fail
noncomputable def names_checker_loop (N : Nat) (names_checker_stmts_r : (List Node) → (List (ByteArray × Int)) → (List (ByteArray × Int)) → (List (ByteArray × (Bool × Bool))) → (List ByteArray) → (List ByteArray) → Option ((Int × (List (ByteArray × Int)) × (List (ByteArray × Int)) × (List ByteArray) × (List ByteArray) × (List (ByteArray × (Bool × Bool)))) ⊕ ((List (ByteArray × Int)) × (List (ByteArray × Int)) × (List ByteArray) × (List ByteArray) × (List (ByteArray × (Bool × Bool)))))) (t1b : ByteArray) (t1d : Int) (t1e : (List Node)) (r1 : (List (ByteArray × Int))) (r2 : (List (ByteArray × Int))) (r3 : (List (ByteArray × (Bool × Bool)))) (r4 : (List ByteArray)) (r5 : (List ByteArray)) : Option ((Int × (List (ByteArray × Int)) × (List (ByteArray × Int)) × (List ByteArray) × (List ByteArray) × (List (ByteArray × (Bool × Bool)))) ⊕ ((List (ByteArray × Int)) × (List ByteArray) × (List ByteArray) × (List (ByteArray × (Bool × Bool))))) := (names_checker_loop_T N names_checker_stmts_r t1b t1d t1e r1 r2 r3 r4 r5).run some
/-! ### (*bauta/names.checker).stmt$1 -/
noncomputable def names_checker_stmt_1_T (N : Nat) (t0a : ByteArray) (r0b : ByteArray) : Tree Bool :=
  let v1 : Bool := (t0a.toList == r0b.toList)
  .ret v1
noncomputable def names_checker_stmt_1 (N : Nat) (t0a : ByteArray) (r0b : ByteArray) : Option Bool := (names_checker_stmt_1_T N t0a r0b).run some
/-! ### slices.IndexFunc[[]bauta/api.Label,bauta/api.Label] -/
noncomputable def slices_IndexFunc_3_l2_T (N : Nat) (t7 : Int) (r0 : (List (ByteArray × (Bool × Bool)))) (r1b : ByteArray) (t8 : Int) : Tree (Int ⊕ (Int ⊕ Unit)) :=
  let v1 : Bool := (ltI t8 t7)
  .br v1 (
    .br (inRange t8 r0.length) (
    let v2 : (ByteArray × (Bool × Bool)) := (r0.getD t8.toNat (ByteArray.empty, (false, false)))
    .call (names_checker_stmt_1 N v2.1 r1b) fun y3 => (
    .br y3 (
      .ret (.inr (.inl t8))) (
      let v4 : Int := (IntKind.i64.wrap (t8 + 1))
      .ret (.inl v4)))) .fail) (
    .ret (.inr (.inr ())))
noncomputable def slices_IndexFunc_3_l2 (N : Nat) (t7 : Int) (r0 : (List (ByteArray × (Bool × Bool)))) (r1b : ByteArray) (v : Int) : Option (Int ⊕ Unit) := loopN (fun v => slices_IndexFunc_3_l2_T N t7 r0 r1b v) N v
noncomputable def slices_IndexFunc_3_T (N : Nat) (r0 : (List (ByteArray × (Bool × Bool)))) (r1b : ByteArray) : Tree Int :=
  let v1 : Int := (r0.length : Int)
  .call (slices_IndexFunc_3_l2 N v1 r0 r1b 0) fun y2 => (
  .alt y2 (fun y3 => (
    .ret y3)) (fun y4 => (
    .ret (-1))))
noncomputable def slices_IndexFunc_3 (N : Nat) (r0 : (List (ByteArray × (Bool × Bool)))) (r1b : ByteArray) : Option Int := (slices_IndexFunc_3_T N r0 r1b).run some
/-! ### slices.ContainsFunc[[]bauta/api.Label,bauta/api.Label] -/
noncomputable def slices_ContainsFunc_3_T (N : Nat) (r0 : (List (ByteArray × (Bool × Bool)))) (r1b : ByteArray) : Tree Bool :=
  .call (slices_IndexFunc_3 N r0 r1b) fun y1 => (
  let v2 : Bool := (leI 0 y1)
  .ret v2)
noncomputable def slices_ContainsFunc_3 (N : Nat) (r0 : (List (ByteArray × (Bool × Bool)))) (r1b : ByteArray) : Option Bool := (slices_ContainsFunc_3_T N r0 r1b).run some
/-! ### (*bauta/names.checker).stmt -/
noncomputable def names_checker_stmt_j16_T (N : Nat) (names_checker_stmts_r : (List Node) → (List (ByteArray × Int)) → (List (ByteArray × Int)) → (List (ByteArray × (Bool × Bool))) → (List ByteArray) → (List ByteArray) → Option ((Int × (List (ByteArray × Int)) × (List (ByteArray × Int)) × (List ByteArray) × (List ByteArray) × (List (ByteArray × (Bool × Bool)))) ⊕ ((List (ByteArray × Int)) × (List (ByteArray × Int)) × (List ByteArray) × (List ByteArray) × (List (ByteArray × (Bool × Bool)))))) (t69 : Bool) (r1a : Int) (r1b : ByteArray) (r1d : Int) (r1e : (List Node)) (r2 : (List (ByteArray × Int))) (r3 : (List (ByteArray × Int))) (r4 : (List ByteArray)) (r5 : (List ByteArray)) (r6 : (List (ByteArray × (Bool × Bool)))) : Tree (Int ⊕ (List (ByteArray × (Bool × Bool)))) :=
  .br t69 (
    .call (names_checker_exprs N r1e r2 r3 r6 r5 r4) fun y1 => (
    .alt y1 (fun y2 => (
      .ret (.inl y2))) (fun y3 => (
      .call (slices_ContainsFunc_3 N r6 r1b) fun y4 => (
      .call (names_wrong N [y4]) fun y5 => (
      .alt y5 (fun y6 => (
        .ret (.inl r1d))) (fun y7 => (
        let v8 : Bool := (r1a == 9)
        .br (ltI (((r6.length : Int) + 1) * 24) 140737488355328) (
        let v9 : (List (ByteArray × (Bool × Bool))) := (r6 ++ [(r1b, (false, v8))])
        .ret (.inr v9)) .fail)))))))) (
    .ret (.inr r6))
noncomputable def names_checker_stmt_j16 (N : Nat) (names_checker_stmts_r : (List Node) → (List (ByteArray × Int)) → (List (ByteArray × Int)) → (List (ByteArray × (Bool × Bool))) → (List ByteArray) → (List ByteArray) → Option ((Int × (List (ByteArray × Int)) × (List (ByteArray × Int)) × (List ByteArray) × (List ByteArray) × (List (ByteArray × (Bool × Bool)))) ⊕ ((List (ByteArray × Int)) × (List (ByteArray × Int)) × (List ByteArray) × (List ByteArray) × (List (ByteArray × (Bool × Bool)))))) (t69 : Bool) (r1a : Int) (r1b : ByteArray) (r1d : Int) (r1e : (List Node)) (r2 : (List (ByteArray × Int))) (r3 : (List (ByteArray × Int))) (r4 : (List ByteArray)) (r5 : (List ByteArray)) (r6 : (List (ByteArray × (Bool × Bool)))) : Option (Int ⊕ (List (ByteArray × (Bool × Bool)))) := (names_checker_stmt_j16_T N names_checker_stmts_r t69 r1a r1b r1d r1e r2 r3 r4 r5 r6).run some
noncomputable def names_checker_stmt_T (N : Nat) (names_checker_stmts_r : (List Node) → (List (ByteArray × Int)) → (List (ByteArray × Int)) → (List (ByteArray × (Bool × Bool))) → (List ByteArray) → (List ByteArray) → Option ((Int × (List (ByteArray × Int)) × (List (ByteArray × Int)) × (List ByteArray) × (List ByteArray) × (List (ByteArray × (Bool × Bool)))) ⊕ ((List (ByteArray × Int)) × (List (ByteArray × Int)) × (List ByteArray) × (List ByteArray) × (List (ByteArray × (Bool × Bool)))))) (t1a : Int) (t1b : ByteArray) (t1d : Int) (t1e : (List Node)) (t1f : (List ByteArray)) (r1 : (List (ByteArray × Int))) (r2 : (List (ByteArray × Int))) (r3 : (List (ByteArray × (Bool × Bool)))) (r4 : (List ByteArray)) (r5 : (List ByteArray)) : Tree ((Int × (List (ByteArray × Int)) × (List (ByteArray × Int)) × (List ByteArray) × (List ByteArray) × (List (ByteArray × (Bool × Bool)))) ⊕ ((List (ByteArray × Int)) × (List (ByteArray × Int)) × (List ByteArray) × (List ByteArray) × (List (ByteArray × (Bool × Bool))))) :=
  let v1 : Bool := (t1a == 6)
  .br v1 (
    .call (names_checker_inputs N t1f r1 r2 r5) fun y2 => (
    .alt y2 (fun y3 => (
      .ret (.inl (t1d, r1, r2, r5, r4, r3)))) (fun y4 => (
      .ret (.inr (y4.1, r2, y4.2, r4, r3)))))) (
    let v5 : Bool := (t1a == 7)
    .br v5 (
      .call (names_checker_inputs_2 N t1f r1 r2 r4) fun y6 => (
      .alt y6 (fun y7 => (
        .ret (.inl (t1d, r1, r2, r5, r4, r3)))) (fun y8 => (
        .ret (.inr (y8.1, r2, r5, y8.2, r3)))))) (
      let v9 : Bool := (t1a == 12)
      .br v9 (
        .call (names_checker_function N t1b t1d t1e t1f r1 r2) fun y10 => (
        .alt y10 (fun y11 => (
          .ret (.inl (y11, r1, r2, r5, r4, r3)))) (fun y12 => (
          .ret (.inr (r1, y12, r5, r4, r3)))))) (
        let v13 : Bool := (t1a == 11)
        .br v13 (
          .call (names_checker_loop N names_checker_stmts_r t1b t1d t1e r1 r2 r3 r4 r5) fun y14 => (
          .alt y14 (fun y15 => (
            .ret (.inl (y15.1, y15.2.1, y15.2.2.1, y15.2.2.2.1, y15.2.2.2.2.1, y15.2.2.2.2.2)))) (fun y16 => (
            .ret (.inr (r1, y16.1, y16.2.1, y16.2.2.1, y16.2.2.2)))))) (
          let v17 : Bool := (t1a == 10)
          .br v17 (
            .call (names_checker_exprs N t1e r1 r2 r3 r4 r5) fun y18 => (
            .alt y18 (fun y19 => (
              .ret (.inl (y19, r1, r2, r5, r4, r3)))) (fun y20 => (
              .call (names_checker_fun N t1b r2) fun y21 => (
              let v22 : Int := (getE (eqE .str) t1b 0 r1)
              let v23 : Bool := (v22 == 1)
              let v24 : Int := (getE (eqE .str) t1b 0 r1)
              let v25 : Bool := (v24 == 3)
              .call (names_wrong N [y21, v23, v25]) fun y26 => (
              .alt y26 (fun y27 => (
                .ret (.inl (t1d, r1, r2, r5, r4, r3)))) (fun y28 => (
                let v29 : (List (ByteArray × Int)) := (setE (eqE .str) t1b 2 r1)
                .ret (.inr (v29, r2, r5, r4, r3)))))))))) (
            let v30 : Bool := (t1a == 8)
            .br v30 (
              .call (names_checker_stmt_j16 N names_checker_stmts_r v30 t1a t1b t1d t1e r1 r2 r5 r4 r3) fun y31 => (
              .alt y31 (fun y32 => (
                .ret (.inl (y32, r1, r2, r5, r4, r3)))) (fun y33 => (
                .ret (.inr (r1, r2, r5, r4, y33)))))) (
              let v34 : Bool := (t1a == 9)
              .call (names_checker_stmt_j16 N names_checker_stmts_r v34 t1a t1b t1d t1e r1 r2 r5 r4 r3) fun y35 => (
              .alt y35 (fun y36 => (
                .ret (.inl (y36, r1, r2, r5, r4, r3)))) (fun y37 => (
                .ret (.inr (r1, r2, r5, r4, y37)))))))))))
noncomputable def names_checker_stmt (N : Nat) (names_checker_stmts_r : (List Node) → (List (ByteArray × Int)) → (List (ByteArray × Int)) → (List (ByteArray × (Bool × Bool))) → (List ByteArray) → (List ByteArray) → Option ((Int × (List (ByteArray × Int)) × (List (ByteArray × Int)) × (List ByteArray) × (List ByteArray) × (List (ByteArray × (Bool × Bool)))) ⊕ ((List (ByteArray × Int)) × (List (ByteArray × Int)) × (List ByteArray) × (List ByteArray) × (List (ByteArray × (Bool × Bool)))))) (t1a : Int) (t1b : ByteArray) (t1d : Int) (t1e : (List Node)) (t1f : (List ByteArray)) (r1 : (List (ByteArray × Int))) (r2 : (List (ByteArray × Int))) (r3 : (List (ByteArray × (Bool × Bool)))) (r4 : (List ByteArray)) (r5 : (List ByteArray)) : Option ((Int × (List (ByteArray × Int)) × (List (ByteArray × Int)) × (List ByteArray) × (List ByteArray) × (List (ByteArray × (Bool × Bool)))) ⊕ ((List (ByteArray × Int)) × (List (ByteArray × Int)) × (List ByteArray) × (List ByteArray) × (List (ByteArray × (Bool × Bool))))) := (names_checker_stmt_T N names_checker_stmts_r t1a t1b t1d t1e t1f r1 r2 r3 r4 r5).run some
/-! ### (*bauta/names.checker).stmts -/
noncomputable def names_checker_stmts_l1_T (N : Nat) (names_checker_stmts_r : (List Node) → (List (ByteArray × Int)) → (List (ByteArray × Int)) → (List (ByteArray × (Bool × Bool))) → (List ByteArray) → (List ByteArray) → Option ((Int × (List (ByteArray × Int)) × (List (ByteArray × Int)) × (List ByteArray) × (List ByteArray) × (List (ByteArray × (Bool × Bool)))) ⊕ ((List (ByteArray × Int)) × (List (ByteArray × Int)) × (List ByteArray) × (List ByteArray) × (List (ByteArray × (Bool × Bool)))))) (t6 : (List Node)) (t7 : Int) (t8 : Int) (r1 : (List (ByteArray × Int))) (r2 : (List (ByteArray × Int))) (r3 : (List ByteArray)) (r4 : (List ByteArray)) (r5 : (List (ByteArray × (Bool × Bool)))) : Tree ((Int × (List (ByteArray × Int)) × (List (ByteArray × Int)) × (List ByteArray) × (List ByteArray) × (List (ByteArray × (Bool × Bool)))) ⊕ ((Int × (List (ByteArray × Int)) × (List (ByteArray × Int)) × (List ByteArray) × (List ByteArray) × (List (ByteArray × (Bool × Bool)))) ⊕ ((List (ByteArray × Int)) × (List (ByteArray × Int)) × (List ByteArray) × (List ByteArray) × (List (ByteArray × (Bool × Bool)))))) :=
  let v1 : Bool := (ltI t8 t7)
  .br v1 (
    .br (inRange t8 t6.length) (
    let v2 : Node := (t6.getD t8.toNat (Node.mk 0 ByteArray.empty 0 0 [] []))
    .call (names_checker_stmt N names_checker_stmts_r (Node.k v2) (Node.s v2) (Node.a v2) (Node.l v2) (Node.p v2) r1 r2 r5 r4 r3) fun y3 => (
    .alt y3 (fun y4 => (
      .ret (.inr (.inl (y4.1, y4.2.1, y4.2.2.1, y4.2.2.2.1, y4.2.2.2.2.1, y4.2.2.2.2.2))))) (fun y5 => (
      let v6 : Int := (IntKind.i64.wrap (t8 + 1))
      .ret (.inl (v6, y5.1, y5.2.1, y5.2.2.1, y5.2.2.2.1, y5.2.2.2.2)))))) .fail) (
    .ret (.inr (.inr (r1, r2, r3, r4, r5))))
noncomputable def names_checker_stmts_l1 (N : Nat) (names_checker_stmts_r : (List Node) → (List (ByteArray × Int)) → (List (ByteArray × Int)) → (List (ByteArray × (Bool × Bool))) → (List ByteArray) → (List ByteArray) → Option ((Int × (List (ByteArray × Int)) × (List (ByteArray × Int)) × (List ByteArray) × (List ByteArray) × (List (ByteArray × (Bool × Bool)))) ⊕ ((List (ByteArray × Int)) × (List (ByteArray × Int)) × (List ByteArray) × (List ByteArray) × (List (ByteArray × (Bool × Bool)))))) (t6 : (List Node)) (t7 : Int) (v : (Int × (List (ByteArray × Int)) × (List (ByteArray × Int)) × (List ByteArray) × (List ByteArray) × (List (ByteArray × (Bool × Bool))))) : Option ((Int × (List (ByteArray × Int)) × (List (ByteArray × Int)) × (List ByteArray) × (List ByteArray) × (List (ByteArray × (Bool × Bool)))) ⊕ ((List (ByteArray × Int)) × (List (ByteArray × Int)) × (List ByteArray) × (List ByteArray) × (List (ByteArray × (Bool × Bool))))) := loopN (fun v => names_checker_stmts_l1_T N names_checker_stmts_r t6 t7 v.1 v.2.1 v.2.2.1 v.2.2.2.1 v.2.2.2.2.1 v.2.2.2.2.2) N v
noncomputable def names_checker_stmts_T (N : Nat) (names_checker_stmts_r : (List Node) → (List (ByteArray × Int)) → (List (ByteArray × Int)) → (List (ByteArray × (Bool × Bool))) → (List ByteArray) → (List ByteArray) → Option ((Int × (List (ByteArray × Int)) × (List (ByteArray × Int)) × (List ByteArray) × (List ByteArray) × (List (ByteArray × (Bool × Bool)))) ⊕ ((List (ByteArray × Int)) × (List (ByteArray × Int)) × (List ByteArray) × (List ByteArray) × (List (ByteArray × (Bool × Bool)))))) (t1 : (List Node)) (r1 : (List (ByteArray × Int))) (r2 : (List (ByteArray × Int))) (r3 : (List (ByteArray × (Bool × Bool)))) (r4 : (List ByteArray)) (r5 : (List ByteArray)) : Tree ((Int × (List (ByteArray × Int)) × (List (ByteArray × Int)) × (List ByteArray) × (List ByteArray) × (List (ByteArray × (Bool × Bool)))) ⊕ ((List (ByteArray × Int)) × (List (ByteArray × Int)) × (List ByteArray) × (List ByteArray) × (List (ByteArray × (Bool × Bool))))) :=
  let v1 : Int := (t1.length : Int)
  .call (names_checker_stmts_l1 N names_checker_stmts_r t1 v1 (0, r1, r2, r5, r4, r3)) fun y2 => (
  .alt y2 (fun y3 => (
    .ret (.inl (y3.1, y3.2.1, y3.2.2.1, y3.2.2.2.1, y3.2.2.2.2.1, y3.2.2.2.2.2)))) (fun y4 => (
    .ret (.inr (y4.1, y4.2.1, y4.2.2.1, y4.2.2.2.1, y4.2.2.2.2)))))
noncomputable def names_checker_stmts_R (N : Nat) : Nat → (List Node) → (List (ByteArray × Int)) → (List (ByteArray × Int)) → (List (ByteArray × (Bool × Bool))) → (List ByteArray) → (List ByteArray) → Option ((Int × (List (ByteArray × Int)) × (List (ByteArray × Int)) × (List ByteArray) × (List ByteArray) × (List (ByteArray × (Bool × Bool)))) ⊕ ((List (ByteArray × Int)) × (List (ByteArray × Int)) × (List ByteArray) × (List ByteArray) × (List (ByteArray × (Bool × Bool)))))
  | 0 => fun _ _ _ _ _ _ => none
  | k + 1 => fun t1 r1 r2 r3 r4 r5 => (names_checker_stmts_T N (names_checker_stmts_R N k) t1 r1 r2 r3 r4 r5).run some
noncomputable def names_checker_stmts (N : Nat) : (List Node) → (List (ByteArray × Int)) → (List (ByteArray × Int)) → (List (ByteArray × (Bool × Bool))) → (List ByteArray) → (List ByteArray) → Option ((Int × (List (ByteArray × Int)) × (List (ByteArray × Int)) × (List ByteArray) × (List ByteArray) × (List (ByteArray × (Bool × Bool)))) ⊕ ((List (ByteArray × Int)) × (List (ByteArray × Int)) × (List ByteArray) × (List ByteArray) × (List (ByteArray × (Bool × Bool))))) := names_checker_stmts_R N N
/-! ### bauta/names.check -/
noncomputable def names_check_T (N : Nat) (t0e : (List Node)) : Tree (Int × Int × (List ByteArray) × (List ByteArray) × (List (ByteArray × (Bool × Bool)))) :=
  let v1 : (List (ByteArray × Int)) := (setE (eqE .str) (⟨#[115, 101, 108]⟩ : ByteArray) 3 [])
  .call (names_checker_stmts N t0e [] v1 [] [] []) fun y2 => (
  .alt y2 (fun y3 => (
    .ret (y3.1, 120, [], [], []))) (fun y4 => (
    .ret (0, 0, y4.2.2.1, y4.2.2.2.1, y4.2.2.2.2))))
noncomputable def names_check (N : Nat) (t0e : (List Node)) : Option (Int × Int × (List ByteArray) × (List ByteArray) × (List (ByteArray × (Bool × Bool)))) := (names_check_T N t0e).run some
/-! ### bauta/names.Program -/
noncomputable def names_Program_T (N : Nat) (t0 : ByteArray) : Tree ((Int × Int × (List ByteArray) × (List ByteArray) × (List (ByteArray × (Bool × Bool)))) ⊕ (Int × (List Node) × (List ByteArray) × (List ByteArray) × (List (ByteArray × (Bool × Bool))))) :=
  .call (parse_Parse N t0) fun y1 => (
  .alt y1 (fun y2 => (
    let v4 : Bool := (y2.2 != 0)
    .br v4 (
      .ret (.inl (y2.1, y2.2, [], [], []))) (
      .call (names_check N []) fun y5 => (
      let v6 : Bool := (y5.2.1 != 0)
      .br v6 (
        .ret (.inl (y5.1, y5.2.1, [], [], []))) (
        .ret (.inl (0, 0, y5.2.2.1, y5.2.2.2.1, y5.2.2.2.2))))))) (fun y3 => (
    .call (names_check N y3.2) fun y7 => (
    let v8 : Bool := (y7.2.1 != 0)
    .br v8 (
      .ret (.inl (y7.1, y7.2.1, [], [], []))) (
      .ret (.inr (y3.1, y3.2, y7.2.2.1, y7.2.2.2.1, y7.2.2.2.2)))))))
noncomputable def names_Program (N : Nat) (t0 : ByteArray) : Option ((Int × Int × (List ByteArray) × (List ByteArray) × (List (ByteArray × (Bool × Bool)))) ⊕ (Int × (List Node) × (List ByteArray) × (List ByteArray) × (List (ByteArray × (Bool × Bool))))) := (names_Program_T N t0).run some
/-! ### bauta/bautalaw12.lives -/
noncomputable def bautalaw12_lives_T (N : Nat) : Tree Bool :=
  .call (names_Program N (⟨#[115, 101, 99, 114, 101, 116, 32, 97, 59, 32, 112, 117, 98, 108, 105, 99, 32, 112, 59, 32, 111, 117, 116, 32, 111, 32, 61, 32, 97, 32, 94, 32, 112, 59]⟩ : ByteArray)) fun y1 => (
  .alt y1 (fun y2 => (
    .call (names_Program N (⟨#[120, 32, 61, 32, 97, 59]⟩ : ByteArray)) fun y4 => (
    .alt y4 (fun y5 => (
      let v7 : Bool := (y2.2.1 == 0)
      .br v7 (
        let v8 : Int := (y2.2.2.1.length : Int)
        let v9 : Bool := (v8 == 1)
        .br v9 (
          let v10 : Int := (y2.2.2.2.1.length : Int)
          let v11 : Bool := (v10 == 1)
          .br v11 (
            let v12 : Int := (y2.2.2.2.2.length : Int)
            let v13 : Bool := (v12 == 1)
            .br v13 (
              let v14 : Bool := (y5.2.1 == 120)
              .br v14 (
                let v15 : Bool := (y5.1 == 4)
                .ret v15) (
                .ret false)) (
              .ret false)) (
            .ret false)) (
          .ret false)) (
        .ret false))) (fun y6 => (
      let v16 : Bool := (y2.2.1 == 0)
      .br v16 (
        let v17 : Int := (y2.2.2.1.length : Int)
        let v18 : Bool := (v17 == 1)
        .br v18 (
          let v19 : Int := (y2.2.2.2.1.length : Int)
          let v20 : Bool := (v19 == 1)
          .br v20 (
            let v21 : Int := (y2.2.2.2.2.length : Int)
            let v22 : Bool := (v21 == 1)
            .br v22 (
              .ret false) (
              .ret false)) (
            .ret false)) (
          .ret false)) (
        .ret false)))))) (fun y3 => (
    .call (names_Program N (⟨#[120, 32, 61, 32, 97, 59]⟩ : ByteArray)) fun y23 => (
    .alt y23 (fun y24 => (
      let v26 : Int := (y3.2.2.1.length : Int)
      let v27 : Bool := (v26 == 1)
      .br v27 (
        let v28 : Int := (y3.2.2.2.1.length : Int)
        let v29 : Bool := (v28 == 1)
        .br v29 (
          let v30 : Int := (y3.2.2.2.2.length : Int)
          let v31 : Bool := (v30 == 1)
          .br v31 (
            let v32 : Bool := (y24.2.1 == 120)
            .br v32 (
              let v33 : Bool := (y24.1 == 4)
              .ret v33) (
              .ret false)) (
            .ret false)) (
          .ret false)) (
        .ret false))) (fun y25 => (
      let v34 : Int := (y3.2.2.1.length : Int)
      let v35 : Bool := (v34 == 1)
      .br v35 (
        let v36 : Int := (y3.2.2.2.1.length : Int)
        let v37 : Bool := (v36 == 1)
        .br v37 (
          let v38 : Int := (y3.2.2.2.2.length : Int)
          let v39 : Bool := (v38 == 1)
          .br v39 (
            .ret false) (
            .ret false)) (
          .ret false)) (
        .ret false)))))))
noncomputable def bautalaw12_lives (N : Nat) : Option Bool := (bautalaw12_lives_T N).run some
/-! ### bauta/names.Check -/
noncomputable def names_Check_T (N : Nat) (t0e : (List Node)) : Tree (Int × Int × (List ByteArray) × (List ByteArray) × (List (ByteArray × (Bool × Bool)))) :=
  .call (names_check N t0e) fun y1 => (
  .ret (y1.1, y1.2.1, y1.2.2.1, y1.2.2.2.1, y1.2.2.2.2))
noncomputable def names_Check (N : Nat) (t0e : (List Node)) : Option (Int × Int × (List ByteArray) × (List ByteArray) × (List (ByteArray × (Bool × Bool)))) := (names_Check_T N t0e).run some
/-! ### bauta/bautaref12.Labels -/
noncomputable def bautaref12_Labels_l4_T (N : Nat) (t0 : (List (ByteArray × (Bool × Bool)))) (t1 : (List (ByteArray × (Bool × Bool)))) (t5 : Int) : Tree (Int ⊕ (Unit ⊕ Unit)) :=
  let v1 : Int := (t0.length : Int)
  let v2 : Bool := (ltI t5 v1)
  .br v2 (
    .br (inRange t5 t0.length) (
    let v3 : (ByteArray × (Bool × Bool)) := (t0.getD t5.toNat (ByteArray.empty, (false, false)))
    .br (inRange t5 t1.length) (
    let v4 : (ByteArray × (Bool × Bool)) := (t1.getD t5.toNat (ByteArray.empty, (false, false)))
    let v5 : Bool := (!((v3.1.toList == v4.1.toList) && ((v3.2.1 == v4.2.1) && (v3.2.2 == v4.2.2))))
    .br v5 (
      .ret (.inr (.inl ()))) (
      let v6 : Int := (IntKind.i64.wrap (t5 + 1))
      .ret (.inl v6))) .fail) .fail) (
    .ret (.inr (.inr ())))
noncomputable def bautaref12_Labels_l4 (N : Nat) (t0 : (List (ByteArray × (Bool × Bool)))) (t1 : (List (ByteArray × (Bool × Bool)))) (v : Int) : Option (Unit ⊕ Unit) := loopN (fun v => bautaref12_Labels_l4_T N t0 t1 v) N v
noncomputable def bautaref12_Labels_T (N : Nat) (t0 : (List (ByteArray × (Bool × Bool)))) (t1 : (List (ByteArray × (Bool × Bool)))) : Tree Bool :=
  let v1 : Int := (t0.length : Int)
  let v2 : Int := (t1.length : Int)
  let v3 : Bool := (v1 != v2)
  .br v3 (
    .ret false) (
    .call (bautaref12_Labels_l4 N t0 t1 0) fun y4 => (
    .alt y4 (fun y5 => (
      .ret false)) (fun y6 => (
      .ret true))))
noncomputable def bautaref12_Labels (N : Nat) (t0 : (List (ByteArray × (Bool × Bool)))) (t1 : (List (ByteArray × (Bool × Bool)))) : Option Bool := (bautaref12_Labels_T N t0 t1).run some
/-! ### bauta/bautaref10.Names -/
noncomputable def bautaref10_Names_l4_T (N : Nat) (t0 : (List ByteArray)) (t1 : (List ByteArray)) (t5 : Int) : Tree (Int ⊕ (Unit ⊕ Unit)) :=
  let v1 : Int := (t0.length : Int)
  let v2 : Bool := (ltI t5 v1)
  .br v2 (
    .br (inRange t5 t0.length) (
    let v3 : ByteArray := (t0.getD t5.toNat ByteArray.empty)
    .br (inRange t5 t1.length) (
    let v4 : ByteArray := (t1.getD t5.toNat ByteArray.empty)
    let v5 : Bool := (!(v3.toList == v4.toList))
    .br v5 (
      .ret (.inr (.inl ()))) (
      let v6 : Int := (IntKind.i64.wrap (t5 + 1))
      .ret (.inl v6))) .fail) .fail) (
    .ret (.inr (.inr ())))
noncomputable def bautaref10_Names_l4 (N : Nat) (t0 : (List ByteArray)) (t1 : (List ByteArray)) (v : Int) : Option (Unit ⊕ Unit) := loopN (fun v => bautaref10_Names_l4_T N t0 t1 v) N v
noncomputable def bautaref10_Names_T (N : Nat) (t0 : (List ByteArray)) (t1 : (List ByteArray)) : Tree Bool :=
  let v1 : Int := (t0.length : Int)
  let v2 : Int := (t1.length : Int)
  let v3 : Bool := (v1 != v2)
  .br v3 (
    .ret false) (
    .call (bautaref10_Names_l4 N t0 t1 0) fun y4 => (
    .alt y4 (fun y5 => (
      .ret false)) (fun y6 => (
      .ret true))))
noncomputable def bautaref10_Names (N : Nat) (t0 : (List ByteArray)) (t1 : (List ByteArray)) : Option Bool := (bautaref10_Names_T N t0 t1).run some
/-! ### bauta/bautalaw12.NamesLeft -/
noncomputable def bautalaw12_NamesLeft_l11_T (N : Nat) (t5 : Int) (r0e : (List Node)) (r6 : (List (ByteArray × (Bool × Bool)))) (t14 : Int) (r3 : (List (ByteArray × (Bool × Bool)))) : Tree ((Int × (List (ByteArray × (Bool × Bool)))) ⊕ (List (ByteArray × (Bool × Bool)))) :=
  let v1 : Int := (r6.length : Int)
  let v2 : Bool := (ltI t14 v1)
  .br v2 (
    .br (inRange t14 r6.length) (
    let v3 : (ByteArray × (Bool × Bool)) := (r6.getD t14.toNat (ByteArray.empty, (false, false)))
    .br (inRange t5 r0e.length) (
    let v4 : Node := (r0e.getD t5.toNat (Node.mk 0 ByteArray.empty 0 0 [] []))
    let v5 : Bool := (!(v3.1.toList == (Node.s v4).toList))
    .br v5 (
      .br (inRange t14 r6.length) (
      let v6 : (ByteArray × (Bool × Bool)) := (r6.getD t14.toNat (ByteArray.empty, (false, false)))
      .br (ltI (((r3.length : Int) + 1) * 24) 140737488355328) (
      let v7 : (List (ByteArray × (Bool × Bool))) := (r3 ++ [(v6.1, (v6.2.1, v6.2.2))])
      let v8 : Int := (IntKind.i64.wrap (t14 + 1))
      .ret (.inl (v8, v7))) .fail) .fail) (
      let v9 : Int := (IntKind.i64.wrap (t14 + 1))
      .ret (.inl (v9, r3)))) .fail) .fail) (
    .ret (.inr r3))
noncomputable def bautalaw12_NamesLeft_l11 (N : Nat) (t5 : Int) (r0e : (List Node)) (r6 : (List (ByteArray × (Bool × Bool)))) (v : (Int × (List (ByteArray × (Bool × Bool))))) : Option (List (ByteArray × (Bool × Bool))) := loopN (fun v => bautalaw12_NamesLeft_l11_T N t5 r0e r6 v.1 v.2) N v
noncomputable def bautalaw12_NamesLeft_j7_T (N : Nat) (t5 : Int) (r0e : (List Node)) (r2 : (List ByteArray)) (r3 : (List ByteArray)) (r4 : (List (ByteArray × (Bool × Bool)))) : Tree Bool :=
  .br (leI 0 t5 && leI t5 (r0e.length : Int)) (
  let v1 : (List Node) := (r0e.take t5.toNat)
  .br (ltI ((0 + (v1.length : Int)) * 88) 140737488355328) (
  let v2 : Int := (IntKind.i64.wrap (t5 + 1))
  .br (leI 0 v2 && leI v2 (r0e.length : Int)) (
  let v3 : (List Node) := (r0e.drop v2.toNat)
  .br (ltI (((v1.length : Int) + (v3.length : Int)) * 88) 140737488355328) (
  let v4 : (List Node) := (v1 ++ v3)
  .call (names_Check N v4) fun y5 => (
  .call (bautalaw12_NamesLeft_l11 N t5 r0e r4 (0, [])) fun y6 => (
  let v7 : Bool := (y5.2.1 == 0)
  .br v7 (
    let v8 : Bool := (y5.1 == 0)
    .br v8 (
      .call (bautaref12_Labels N y5.2.2.2.2 y6) fun y9 => (
      .br y9 (
        .call (bautaref10_Names N r2 y5.2.2.1) fun y10 => (
        .br y10 (
          .call (bautaref10_Names N r3 y5.2.2.2.1) fun y11 => (
          .br y11 (
            .call (bautalaw12_lives N) fun y12 => (
            .ret y12)) (
            .ret false))) (
          .ret false))) (
        .ret false))) (
      .ret false)) (
    .ret false)))) .fail) .fail) .fail) .fail
noncomputable def bautalaw12_NamesLeft_j7 (N : Nat) (t5 : Int) (r0e : (List Node)) (r2 : (List ByteArray)) (r3 : (List ByteArray)) (r4 : (List (ByteArray × (Bool × Bool)))) : Option Bool := (bautalaw12_NamesLeft_j7_T N t5 r0e r2 r3 r4).run some
noncomputable def bautalaw12_NamesLeft_j3_T (N : Nat) (t1 : Int) (r0e : (List Node)) : Tree Bool :=
  let v1 : Int := (IntKind.i64.wrap t1)
  let v2 : Int := (r0e.length : Int)
  .br (!decide (v2 = 0)) (
  let v3 : Int := (v1.tmod v2)
  .call (names_Check N r0e) fun y4 => (
  .br (inRange v3 r0e.length) (
  let v5 : Node := (r0e.getD v3.toNat (Node.mk 0 ByteArray.empty 0 0 [] []))
  let v6 : Bool := ((Node.k v5) != 8)
  .br v6 (
    .br (inRange v3 r0e.length) (
    let v7 : Node := (r0e.getD v3.toNat (Node.mk 0 ByteArray.empty 0 0 [] []))
    let v8 : Bool := ((Node.k v7) != 9)
    .br v8 (
      .call (bautalaw12_lives N) fun y9 => (
      .ret y9)) (
      let v10 : Bool := (y4.2.1 != 0)
      .br v10 (
        .call (bautalaw12_lives N) fun y11 => (
        .ret y11)) (
        .call (bautalaw12_NamesLeft_j7 N v3 r0e y4.2.2.1 y4.2.2.2.1 y4.2.2.2.2) fun y12 => (
        .ret y12)))) .fail) (
    let v13 : Bool := (y4.2.1 != 0)
    .br v13 (
      .call (bautalaw12_lives N) fun y14 => (
      .ret y14)) (
      .call (bautalaw12_NamesLeft_j7 N v3 r0e y4.2.2.1 y4.2.2.2.1 y4.2.2.2.2) fun y15 => (
      .ret y15)))) .fail)) .fail
noncomputable def bautalaw12_NamesLeft_j3 (N : Nat) (t1 : Int) (r0e : (List Node)) : Option Bool := (bautalaw12_NamesLeft_j3_T N t1 r0e).run some
noncomputable def bautalaw12_NamesLeft_T (N : Nat) (t0a : Int) (t0b : ByteArray) (t0c : Int) (t0d : Int) (t0e : (List Node)) (t0f : (List ByteArray)) (t1 : Int) : Tree Bool :=
  .call (bautalaw11_Small N t0a t0b t0c t0d t0e t0f) fun y1 => (
  let v2 : Bool := (!y1)
  .br v2 (
    .call (bautalaw12_lives N) fun y3 => (
    .ret y3)) (
    let v4 : Int := (t0e.length : Int)
    let v5 : Bool := (v4 == 0)
    .br v5 (
      .call (bautalaw12_lives N) fun y6 => (
      .ret y6)) (
      .call (bautalaw12_NamesLeft_j3 N t1 t0e) fun y7 => (
      .ret y7))))
noncomputable def bautalaw12_NamesLeft (N : Nat) (t0a : Int) (t0b : ByteArray) (t0c : Int) (t0d : Int) (t0e : (List Node)) (t0f : (List ByteArray)) (t1 : Int) : Option Bool := (bautalaw12_NamesLeft_T N t0a t0b t0c t0d t0e t0f t1).run some
end Go.Proofs.YtfogafinohfpfaaGreatDoorV
