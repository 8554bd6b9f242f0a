/- Lex: what the functions come to (printed by wip/ext.py). -/
import Derived.Test.YtedadodniodnaaaVL
namespace Go.Proofs.YtedadodniodnaaaV
open Go.RowKit
set_option linter.unusedVariables false
set_option maxRecDepth 100000
/-! ### bauta/lex.each -/
noncomputable def lex_each_T (N : Nat) : Tree Unit :=
  .ret ()
noncomputable def lex_each (N : Nat) : Option Unit := (lex_each_T N).run some
/-! ### bauta/lex.blank$1 -/
noncomputable def lex_blank_1_T (N : Nat) (t0 : Int) : Tree Bool :=
  let v1 : Bool := (t0 == 32)
  .br v1 (
    .ret true) (
    let v2 : Bool := (t0 == 9)
    .br v2 (
      .ret true) (
      let v3 : Bool := (t0 == 10)
      .ret v3))
noncomputable def lex_blank_1 (N : Nat) (t0 : Int) : Option Bool := (lex_blank_1_T N t0).run some
/-! ### bauta/lex.run -/
noncomputable def lex_run_l2_T (N : Nat) (t0 : ByteArray) (t5 : Int) : Tree (Int ⊕ Int) :=
  let v1 : Int := (t0.size : Int)
  let v2 : Bool := (ltI t5 v1)
  .br v2 (
    .br (inRange t5 t0.size) (
    let v3 : Int := (bAt t0 t5.toNat)
    .call (lex_blank_1 N v3) fun y4 => (
    .br y4 (
      let v5 : Int := (IntKind.i64.wrap (t5 + 1))
      .ret (.inl v5)) (
      .ret (.inr t5)))) .fail) (
    .ret (.inr t5))
noncomputable def lex_run_l2 (N : Nat) (t0 : ByteArray) (v : Int) : Option Int := loopN (fun v => lex_run_l2_T N t0 v) N v
noncomputable def lex_run_T (N : Nat) (t0 : ByteArray) : Tree Int :=
  .call (lex_run_l2 N t0 0) fun y1 => (
  .ret y1)
noncomputable def lex_run (N : Nat) (t0 : ByteArray) : Option Int := (lex_run_T N t0).run some
/-! ### internal/stringslite.HasPrefix -/
noncomputable def stringslite_HasPrefix_T (N : Nat) (t0 : ByteArray) (t1 : ByteArray) : Tree Bool :=
  let v1 : Int := (t0.size : Int)
  let v2 : Int := (t1.size : Int)
  let v3 : Bool := (leI v2 v1)
  .br v3 (
    let v4 : Int := (t1.size : Int)
    .br (leI 0 v4 && leI v4 (t0.size : Int)) (
    let v5 : ByteArray := (t0.extract 0 v4.toNat)
    let v6 : Bool := (v5.toList == t1.toList)
    .ret v6) .fail) (
    .ret false)
noncomputable def stringslite_HasPrefix (N : Nat) (t0 : ByteArray) (t1 : ByteArray) : Option Bool := (stringslite_HasPrefix_T N t0 t1).run some
/-! ### strings.HasPrefix -/
noncomputable def strings_HasPrefix_T (N : Nat) (t0 : ByteArray) (t1 : ByteArray) : Tree Bool :=
  .call (stringslite_HasPrefix N t0 t1) fun y1 => (
  .ret y1)
noncomputable def strings_HasPrefix (N : Nat) (t0 : ByteArray) (t1 : ByteArray) : Option Bool := (strings_HasPrefix_T N t0 t1).run some
/-! ### bauta/lex.blank$2 -/
noncomputable def lex_blank_2_T (N : Nat) (t0 : Int) : Tree Bool :=
  let v1 : Bool := (t0 != 10)
  .ret v1
noncomputable def lex_blank_2 (N : Nat) (t0 : Int) : Option Bool := (lex_blank_2_T N t0).run some
/-! ### bauta/lex.run -/
noncomputable def lex_run_2_l2_T (N : Nat) (t0 : ByteArray) (t5 : Int) : Tree (Int ⊕ Int) :=
  let v1 : Int := (t0.size : Int)
  let v2 : Bool := (ltI t5 v1)
  .br v2 (
    .br (inRange t5 t0.size) (
    let v3 : Int := (bAt t0 t5.toNat)
    .call (lex_blank_2 N v3) fun y4 => (
    .br y4 (
      let v5 : Int := (IntKind.i64.wrap (t5 + 1))
      .ret (.inl v5)) (
      .ret (.inr t5)))) .fail) (
    .ret (.inr t5))
noncomputable def lex_run_2_l2 (N : Nat) (t0 : ByteArray) (v : Int) : Option Int := loopN (fun v => lex_run_2_l2_T N t0 v) N v
noncomputable def lex_run_2_T (N : Nat) (t0 : ByteArray) : Tree Int :=
  .call (lex_run_2_l2 N t0 0) fun y1 => (
  .ret y1)
noncomputable def lex_run_2 (N : Nat) (t0 : ByteArray) : Option Int := (lex_run_2_T N t0).run some
/-! ### bauta/lex.blank -/
noncomputable def lex_blank_j5_T (N : Nat) (t3 : Int) (t4 : Int) : Tree (Unit ⊕ Int) :=
  let v1 : Bool := (t4 == 0)
  .br v1 (
    .ret (.inl ())) (
    let v2 : Int := (IntKind.i64.wrap (t3 + t4))
    .ret (.inr v2))
noncomputable def lex_blank_j5 (N : Nat) (t3 : Int) (t4 : Int) : Option (Unit ⊕ Int) := (lex_blank_j5_T N t3 t4).run some
noncomputable def lex_blank_l2_T (N : Nat) (t0 : ByteArray) (t3 : Int) : Tree (Int ⊕ Int) :=
  .br (leI 0 t3 && leI t3 (t0.size : Int)) (
  let v1 : ByteArray := (t0.extract t3.toNat t0.size)
  .call (lex_run N v1) fun y2 => (
  let v3 : Int := (IntKind.i64.wrap (t3 + y2))
  .br (leI 0 v3 && leI v3 (t0.size : Int)) (
  let v4 : ByteArray := (t0.extract v3.toNat t0.size)
  .call (strings_HasPrefix N v4 (⟨#[47, 47]⟩ : ByteArray)) fun y5 => (
  .br y5 (
    let v6 : Int := (IntKind.i64.wrap (t3 + y2))
    .br (leI 0 v6 && leI v6 (t0.size : Int)) (
    let v7 : ByteArray := (t0.extract v6.toNat t0.size)
    .call (lex_run_2 N v7) fun y8 => (
    let v9 : Int := (IntKind.i64.wrap (y2 + y8))
    .call (lex_blank_j5 N t3 v9) fun y10 => (
    .alt y10 (fun y11 => (
      .ret (.inr t3))) (fun y12 => (
      .ret (.inl y12)))))) .fail) (
    .call (lex_blank_j5 N t3 y2) fun y13 => (
    .alt y13 (fun y14 => (
      .ret (.inr t3))) (fun y15 => (
      .ret (.inl y15))))))) .fail)) .fail
noncomputable def lex_blank_l2 (N : Nat) (t0 : ByteArray) (v : Int) : Option Int := loopN (fun v => lex_blank_l2_T N t0 v) N v
noncomputable def lex_blank_T (N : Nat) (t0 : ByteArray) : Tree Int :=
  .call (lex_blank_l2 N t0 0) fun y1 => (
  .ret y1)
noncomputable def lex_blank (N : Nat) (t0 : ByteArray) : Option Int := (lex_blank_T N t0).run some
/-! ### bauta/lex.letter -/
noncomputable def lex_letter_T (N : Nat) (t0 : Int) : Tree Bool :=
  let v1 : Bool := (leI 65 t0)
  .br v1 (
    let v2 : Bool := (leI t0 90)
    .br v2 (
      .ret true) (
      let v3 : Bool := (leI 97 t0)
      .br v3 (
        let v4 : Bool := (leI t0 122)
        .ret v4) (
        .ret false))) (
    let v5 : Bool := (leI 97 t0)
    .br v5 (
      let v6 : Bool := (leI t0 122)
      .ret v6) (
      .ret false))
noncomputable def lex_letter (N : Nat) (t0 : Int) : Option Bool := (lex_letter_T N t0).run some
/-! ### bauta/lex.digit -/
noncomputable def lex_digit_T (N : Nat) (t0 : Int) : Tree Bool :=
  let v1 : Bool := (leI 48 t0)
  .br v1 (
    let v2 : Bool := (leI t0 57)
    .ret v2) (
    .ret false)
noncomputable def lex_digit (N : Nat) (t0 : Int) : Option Bool := (lex_digit_T N t0).run some
/-! ### bauta/lex.inner -/
noncomputable def lex_inner_T (N : Nat) (t0 : Int) : Tree Bool :=
  .call (lex_letter N t0) fun y1 => (
  .br y1 (
    .ret true) (
    .call (lex_digit N t0) fun y2 => (
    .br y2 (
      .ret true) (
      let v3 : Bool := (t0 == 95)
      .ret v3))))
noncomputable def lex_inner (N : Nat) (t0 : Int) : Option Bool := (lex_inner_T N t0).run some
/-! ### bauta/lex.run -/
noncomputable def lex_run_3_l2_T (N : Nat) (t0 : ByteArray) (t5 : Int) : Tree (Int ⊕ Int) :=
  let v1 : Int := (t0.size : Int)
  let v2 : Bool := (ltI t5 v1)
  .br v2 (
    .br (inRange t5 t0.size) (
    let v3 : Int := (bAt t0 t5.toNat)
    .call (lex_inner N v3) fun y4 => (
    .br y4 (
      let v5 : Int := (IntKind.i64.wrap (t5 + 1))
      .ret (.inl v5)) (
      .ret (.inr t5)))) .fail) (
    .ret (.inr t5))
noncomputable def lex_run_3_l2 (N : Nat) (t0 : ByteArray) (v : Int) : Option Int := loopN (fun v => lex_run_3_l2_T N t0 v) N v
noncomputable def lex_run_3_T (N : Nat) (t0 : ByteArray) : Tree Int :=
  .call (lex_run_3_l2 N t0 0) fun y1 => (
  .ret y1)
noncomputable def lex_run_3 (N : Nat) (t0 : ByteArray) : Option Int := (lex_run_3_T N t0).run some
/-! ### strings.Contains -/
/-! ### bauta/lex.isWord -/
noncomputable def lex_isWord_T (N : Nat) (t0 : ByteArray) : Tree Bool :=
  let v1 : Bool := (!(t0.toList == ByteArray.empty.toList))
  .br v1 (
    .call (strings_Contains N t0 (⟨#[32]⟩ : ByteArray)) fun y2 => (
    let v3 : Bool := (!y2)
    .br v3 (
      .br (leI (((⟨#[32]⟩ : ByteArray).size : Int) + t0.size) 9223372036854775807) (
      let v4 : ByteArray := ((⟨#[32]⟩ : ByteArray) ++ t0)
      .br (leI ((v4.size : Int) + (⟨#[32]⟩ : ByteArray).size) 9223372036854775807) (
      let v5 : ByteArray := (v4 ++ (⟨#[32]⟩ : ByteArray))
      .call (strings_Contains N (⟨#[32, 115, 101, 99, 114, 101, 116, 32, 112, 117, 98, 108, 105, 99, 32, 111, 117, 116, 32, 115, 104, 111, 119, 32, 102, 111, 114, 32, 105, 110, 32, 102, 110, 32]⟩ : ByteArray) v5) fun y6 => (
      .ret y6)) .fail) .fail) (
      .ret false))) (
    .ret false)
noncomputable def lex_isWord (N : Nat) (t0 : ByteArray) : Option Bool := (lex_isWord_T N t0).run some
/-! ### bauta/lex.next$1 -/
noncomputable def lex_next_1_T (N : Nat) (t0 : Int) : Tree Bool :=
  .call (lex_letter N t0) fun y1 => (
  .br y1 (
    .ret true) (
    .call (lex_digit N t0) fun y2 => (
    .ret y2)))
noncomputable def lex_next_1 (N : Nat) (t0 : Int) : Option Bool := (lex_next_1_T N t0).run some
/-! ### bauta/lex.run -/
noncomputable def lex_run_4_l2_T (N : Nat) (t0 : ByteArray) (t5 : Int) : Tree (Int ⊕ Int) :=
  let v1 : Int := (t0.size : Int)
  let v2 : Bool := (ltI t5 v1)
  .br v2 (
    .br (inRange t5 t0.size) (
    let v3 : Int := (bAt t0 t5.toNat)
    .call (lex_next_1 N v3) fun y4 => (
    .br y4 (
      let v5 : Int := (IntKind.i64.wrap (t5 + 1))
      .ret (.inl v5)) (
      .ret (.inr t5)))) .fail) (
    .ret (.inr t5))
noncomputable def lex_run_4_l2 (N : Nat) (t0 : ByteArray) (v : Int) : Option Int := loopN (fun v => lex_run_4_l2_T N t0 v) N v
noncomputable def lex_run_4_T (N : Nat) (t0 : ByteArray) : Tree Int :=
  .call (lex_run_4_l2 N t0 0) fun y1 => (
  .ret y1)
noncomputable def lex_run_4 (N : Nat) (t0 : ByteArray) : Option Int := (lex_run_4_T N t0).run some
/-! ### strings.IndexByte -/
/-! ### bauta/lex.next -/
noncomputable def lex_next_l12_T (N : Nat) (t0 : ByteArray) (t28a : ByteArray) (t28b : ByteArray) (t28c : ByteArray) (t28d : ByteArray) (t29 : Int) : Tree (Int ⊕ (Int ⊕ Unit)) :=
  let v1 : Bool := (ltI t29 4)
  .br v1 (
    .br (inRange t29 4) (
    let v2 : ByteArray := (bif (decide (t29 = 3)) then t28d else (bif (decide (t29 = 2)) then t28c else (bif (decide (t29 = 1)) then t28b else t28a)))
    .call (strings_HasPrefix N t0 v2) fun y3 => (
    .br y3 (
      let v4 : Int := (v2.size : Int)
      .ret (.inr (.inl v4))) (
      let v5 : Int := (IntKind.i64.wrap (t29 + 1))
      .ret (.inl v5)))) .fail) (
    .ret (.inr (.inr ())))
noncomputable def lex_next_l12 (N : Nat) (t0 : ByteArray) (t28a : ByteArray) (t28b : ByteArray) (t28c : ByteArray) (t28d : ByteArray) (v : Int) : Option (Int ⊕ Unit) := loopN (fun v => lex_next_l12_T N t0 t28a t28b t28c t28d v) N v
noncomputable def lex_next_T (N : Nat) (t0 : ByteArray) : Tree (Int × Int) :=
  .br (inRange 0 t0.size) (
  let v1 : Int := (bAt t0 0)
  .call (lex_letter N v1) fun y2 => (
  .br y2 (
    .call (lex_run_3 N t0) fun y3 => (
    .br (leI 0 y3 && leI y3 (t0.size : Int)) (
    let v4 : ByteArray := (t0.extract 0 y3.toNat)
    .call (lex_isWord N v4) fun y5 => (
    .br y5 (
      .ret (3, y3)) (
      let v6 : Bool := (ltI 32 y3)
      .br v6 (
        .ret (0, (-1))) (
        .ret (1, y3))))) .fail)) (
    .call (lex_digit N v1) fun y7 => (
    .br y7 (
      .call (lex_run_4 N t0) fun y8 => (
      .ret (2, y8))) (
      .call (lex_next_l12 N t0 (⟨#[60, 60, 60]⟩ : ByteArray) (⟨#[60, 60]⟩ : ByteArray) (⟨#[62, 62]⟩ : ByteArray) (⟨#[46, 46]⟩ : ByteArray) 0) fun y9 => (
      .alt y9 (fun y10 => (
        .ret (4, y10))) (fun y11 => (
        .br (inRange 0 t0.size) (
        let v12 : Int := (bAt t0 0)
        .call (strings_IndexByte N (⟨#[61, 59, 44, 40, 41, 123, 125, 43, 45, 38, 124, 94, 126]⟩ : ByteArray) v12) fun y13 => (
        let v14 : Bool := (leI 0 y13)
        .br v14 (
          .ret (4, 1)) (
          .ret (0, (-1))))) .fail)))))))) .fail
noncomputable def lex_next (N : Nat) (t0 : ByteArray) : Option (Int × Int) := (lex_next_T N t0).run some
/-! ### bauta/lex.Words.round5 -/
noncomputable def lex_Words_round5_j9_T (N : Nat) (t7 : Int) (r5a : Int) (r5b : ByteArray) (r5c : Int) (r7 : (List (Int × (ByteArray × Int)))) : Tree (Unit ⊕ (List (Int × (ByteArray × Int)))) :=
  let v1 : Bool := (t7 != 0)
  .br v1 (
    .ret (.inl ())) (
    .br (ltI (((r7.length : Int) + 1) * 32) 140737488355328) (
    let v2 : (List (Int × (ByteArray × Int))) := (r7 ++ [(r5a, (r5b, r5c))])
    .ret (.inr v2)) .fail)
noncomputable def lex_Words_round5_j9 (N : Nat) (t7 : Int) (r5a : Int) (r5b : ByteArray) (r5c : Int) (r7 : (List (Int × (ByteArray × Int)))) : Option (Unit ⊕ (List (Int × (ByteArray × Int)))) := (lex_Words_round5_j9_T N t7 r5a r5b r5c r7).run some
noncomputable def lex_Words_round5_T (N : Nat) (t0a : Int) (t0b : ByteArray) (t0c : Int) (t1 : Int) (r6 : (List (Int × (ByteArray × Int)))) : Tree (Int ⊕ (List (Int × (ByteArray × Int)))) :=
  let v1 : Bool := (t1 == 0)
  .br v1 (
    let v2 : Int := (r6.length : Int)
    let v3 : Bool := (v2 == 4000)
    .br v3 (
      .call (lex_Words_round5_j9 N 150 t0a t0b t0c r6) fun y4 => (
      .alt y4 (fun y5 => (
        .ret (.inl 150))) (fun y6 => (
        .ret (.inr y6))))) (
      .call (lex_Words_round5_j9 N t1 t0a t0b t0c r6) fun y7 => (
      .alt y7 (fun y8 => (
        .ret (.inl t1))) (fun y9 => (
        .ret (.inr y9)))))) (
    .call (lex_Words_round5_j9 N t1 t0a t0b t0c r6) fun y10 => (
    .alt y10 (fun y11 => (
      .ret (.inl t1))) (fun y12 => (
      .ret (.inr y12)))))
noncomputable def lex_Words_round5 (N : Nat) (t0a : Int) (t0b : ByteArray) (t0c : Int) (t1 : Int) (r6 : (List (Int × (ByteArray × Int)))) : Option (Int ⊕ (List (Int × (ByteArray × Int)))) := (lex_Words_round5_T N t0a t0b t0c t1 r6).run some
/-! ### bauta/lex.each$1 -/
noncomputable def lex_each_1_l1_T (N : Nat) (r1 : ByteArray) (t3 : Int) (r7 : (List (Int × (ByteArray × Int)))) : Tree ((Int × (List (Int × (ByteArray × Int)))) ⊕ ((Int × Int × (List (Int × (ByteArray × Int)))) ⊕ (List (Int × (ByteArray × Int))) ⊕ (List (Int × (ByteArray × Int))))) :=
  let v1 : Int := (r1.size : Int)
  let v2 : Bool := (ltI t3 v1)
  .br v2 (
    .br (leI 0 t3 && leI t3 (r1.size : Int)) (
    let v3 : ByteArray := (r1.extract t3.toNat r1.size)
    .call (lex_next N v3) fun y4 => (
    let v5 : Bool := (ltI y4.2 0)
    .br v5 (
      .call (lex_Words_round5 N 0 ByteArray.empty t3 100 r7) fun y6 => (
      .alt y6 (fun y7 => (
        .ret (.inr (.inl (t3, y7, r7))))) (fun y8 => (
        .ret (.inr (.inr (.inl y8))))))) (
      let v9 : Int := (IntKind.i64.wrap (t3 + y4.2))
      .br (leI 0 t3 && (leI t3 v9 && leI v9 (r1.size : Int))) (
      let v10 : ByteArray := (r1.extract t3.toNat v9.toNat)
      .call (lex_Words_round5 N y4.1 v10 t3 0 r7) fun y11 => (
      .alt y11 (fun y12 => (
        .ret (.inr (.inl (t3, y12, r7))))) (fun y13 => (
        let v14 : Int := (IntKind.i64.wrap (t3 + y4.2))
        .br (leI 0 v14 && leI v14 (r1.size : Int)) (
        let v15 : ByteArray := (r1.extract v14.toNat r1.size)
        .call (lex_blank N v15) fun y16 => (
        let v17 : Int := (IntKind.i64.wrap (v14 + y16))
        .ret (.inl (v17, y13)))) .fail)))) .fail))) .fail) (
    .ret (.inr (.inr (.inr r7))))
noncomputable def lex_each_1_l1 (N : Nat) (r1 : ByteArray) (v : (Int × (List (Int × (ByteArray × Int))))) : Option ((Int × Int × (List (Int × (ByteArray × Int)))) ⊕ (List (Int × (ByteArray × Int))) ⊕ (List (Int × (ByteArray × Int)))) := loopN (fun v => lex_each_1_l1_T N r1 v.1 v.2) N v
noncomputable def lex_each_1_T (N : Nat) (r1 : ByteArray) (r7 : (List (Int × (ByteArray × Int)))) : Tree ((Int × Int × (List (Int × (ByteArray × Int)))) ⊕ (List (Int × (ByteArray × Int)))) :=
  .call (lex_blank N r1) fun y1 => (
  .call (lex_each_1_l1 N r1 (y1, r7)) fun y2 => (
  .alt y2 (fun y3 => (
    .ret (.inl (y3.1, y3.2.1, y3.2.2)))) (fun y4 => (
    .alt y4 (fun y5 => (
      .ret (.inr y5))) (fun y6 => (
      let v7 : Int := (r1.size : Int)
      .call (lex_Words_round5 N 0 ByteArray.empty v7 0 y6) fun y8 => (
      .alt y8 (fun y9 => (
        .ret (.inl (v7, y9, y6)))) (fun y10 => (
        .ret (.inr y10))))))))))
noncomputable def lex_each_1 (N : Nat) (r1 : ByteArray) (r7 : (List (Int × (ByteArray × Int)))) : Option ((Int × Int × (List (Int × (ByteArray × Int)))) ⊕ (List (Int × (ByteArray × Int)))) := (lex_each_1_T N r1 r7).run some
/-! ### bauta/lex.Words -/
noncomputable def lex_Words_T (N : Nat) (t0 : ByteArray) : Tree (Int × Int × (List (Int × (ByteArray × Int)))) :=
  let v1 : Int := (t0.size : Int)
  let v2 : Bool := (ltI 20000 v1)
  .br v2 (
    .ret (0, 150, [])) (
    .call (lex_each N) fun y3 => (
    .call (lex_each_1 N t0 []) fun y4 => (
    .alt y4 (fun y5 => (
      .ret (y5.1, y5.2.1, []))) (fun y6 => (
      .ret (0, 0, y6))))))
noncomputable def lex_Words (N : Nat) (t0 : ByteArray) : Option (Int × Int × (List (Int × (ByteArray × Int)))) := (lex_Words_T N t0).run some
/-! ### bauta/bautaref09.skip -/
noncomputable def bautaref09_skip_l5_T (N : Nat) (t0 : ByteArray) (t1 : Int) : Tree (Int ⊕ Int) :=
  let v1 : Int := (t0.size : Int)
  let v2 : Bool := (ltI t1 v1)
  .br v2 (
    .br (inRange t1 t0.size) (
    let v3 : Int := (bAt t0 t1.toNat)
    let v4 : Bool := (v3 != 10)
    .br v4 (
      let v5 : Int := (IntKind.i64.wrap (t1 + 1))
      .ret (.inl v5)) (
      .ret (.inr t1))) .fail) (
    .ret (.inr t1))
noncomputable def bautaref09_skip_l5 (N : Nat) (t0 : ByteArray) (v : Int) : Option Int := loopN (fun v => bautaref09_skip_l5_T N t0 v) N v
noncomputable def bautaref09_skip_j5_T (N : Nat) (t0 : ByteArray) (t1 : Int) (t44 : Bool) : Tree (Int ⊕ Unit) :=
  .br t44 (
    .call (bautaref09_skip_l5 N t0 t1) fun y1 => (
    .ret (.inl y1))) (
    .ret (.inr ()))
noncomputable def bautaref09_skip_j5 (N : Nat) (t0 : ByteArray) (t1 : Int) (t44 : Bool) : Option (Int ⊕ Unit) := (bautaref09_skip_j5_T N t0 t1 t44).run some
noncomputable def bautaref09_skip_j3_T (N : Nat) (t0 : ByteArray) (t1 : Int) (t24 : Bool) : Tree (Int ⊕ Unit) :=
  .br t24 (
    let v1 : Int := (IntKind.i64.wrap (t1 + 1))
    .ret (.inl v1)) (
    .br (inRange t1 t0.size) (
    let v2 : Int := (bAt t0 t1.toNat)
    let v3 : Bool := (v2 == 47)
    .br v3 (
      let v4 : Int := (IntKind.i64.wrap (t1 + 1))
      let v5 : Int := (t0.size : Int)
      let v6 : Bool := (ltI v4 v5)
      .br v6 (
        let v7 : Int := (IntKind.i64.wrap (t1 + 1))
        .br (inRange v7 t0.size) (
        let v8 : Int := (bAt t0 v7.toNat)
        let v9 : Bool := (v8 == 47)
        .call (bautaref09_skip_j5 N t0 t1 v9) fun y10 => (
        .alt y10 (fun y11 => (
          .ret (.inl y11))) (fun y12 => (
          .ret (.inr ()))))) .fail) (
        .call (bautaref09_skip_j5 N t0 t1 false) fun y13 => (
        .alt y13 (fun y14 => (
          .ret (.inl y14))) (fun y15 => (
          .ret (.inr ())))))) (
      .call (bautaref09_skip_j5 N t0 t1 false) fun y16 => (
      .alt y16 (fun y17 => (
        .ret (.inl y17))) (fun y18 => (
        .ret (.inr ())))))) .fail)
noncomputable def bautaref09_skip_j3 (N : Nat) (t0 : ByteArray) (t1 : Int) (t24 : Bool) : Option (Int ⊕ Unit) := (bautaref09_skip_j3_T N t0 t1 t24).run some
noncomputable def bautaref09_skip_l1_T (N : Nat) (t0 : ByteArray) (t1 : Int) : Tree (Int ⊕ (Int ⊕ Int)) :=
  let v1 : Int := (t0.size : Int)
  let v2 : Bool := (ltI t1 v1)
  .br v2 (
    .br (inRange t1 t0.size) (
    let v3 : Int := (bAt t0 t1.toNat)
    let v4 : Bool := (v3 == 32)
    .br v4 (
      .call (bautaref09_skip_j3 N t0 t1 true) fun y5 => (
      .alt y5 (fun y6 => (
        .ret (.inl y6))) (fun y7 => (
        .ret (.inr (.inl t1)))))) (
      .br (inRange t1 t0.size) (
      let v8 : Int := (bAt t0 t1.toNat)
      let v9 : Bool := (v8 == 9)
      .br v9 (
        .call (bautaref09_skip_j3 N t0 t1 true) fun y10 => (
        .alt y10 (fun y11 => (
          .ret (.inl y11))) (fun y12 => (
          .ret (.inr (.inl t1)))))) (
        .br (inRange t1 t0.size) (
        let v13 : Int := (bAt t0 t1.toNat)
        let v14 : Bool := (v13 == 10)
        .call (bautaref09_skip_j3 N t0 t1 v14) fun y15 => (
        .alt y15 (fun y16 => (
          .ret (.inl y16))) (fun y17 => (
          .ret (.inr (.inl t1)))))) .fail)) .fail)) .fail) (
    .ret (.inr (.inr t1)))
noncomputable def bautaref09_skip_l1 (N : Nat) (t0 : ByteArray) (v : Int) : Option (Int ⊕ Int) := loopN (fun v => bautaref09_skip_l1_T N t0 v) N v
noncomputable def bautaref09_skip_T (N : Nat) (t0 : ByteArray) (t1 : Int) : Tree Int :=
  .call (bautaref09_skip_l1 N t0 t1) fun y1 => (
  .alt y1 (fun y2 => (
    .ret y2)) (fun y3 => (
    .ret y3)))
noncomputable def bautaref09_skip (N : Nat) (t0 : ByteArray) (t1 : Int) : Option Int := (bautaref09_skip_T N t0 t1).run some
/-! ### bauta/bautaref09.letter -/
noncomputable def bautaref09_letter_T (N : Nat) (t0 : Int) : Tree Bool :=
  let v1 : Bool := (leI 65 t0)
  .br v1 (
    let v2 : Bool := (leI t0 90)
    .br v2 (
      .ret true) (
      let v3 : Bool := (leI 97 t0)
      .br v3 (
        let v4 : Bool := (leI t0 122)
        .ret v4) (
        .ret false))) (
    let v5 : Bool := (leI 97 t0)
    .br v5 (
      let v6 : Bool := (leI t0 122)
      .ret v6) (
      .ret false))
noncomputable def bautaref09_letter (N : Nat) (t0 : Int) : Option Bool := (bautaref09_letter_T N t0).run some
/-! ### bauta/bautaref09.num -/
noncomputable def bautaref09_num_T (N : Nat) (t0 : Int) : Tree Bool :=
  let v1 : Bool := (leI 48 t0)
  .br v1 (
    let v2 : Bool := (leI t0 57)
    .ret v2) (
    .ret false)
noncomputable def bautaref09_num (N : Nat) (t0 : Int) : Option Bool := (bautaref09_num_T N t0).run some
/-! ### bauta/bautaref09.In -/
noncomputable def bautaref09_In_l2_T (N : Nat) (t0 : (List ByteArray)) (t1 : ByteArray) (t5 : Int) : Tree (Int ⊕ (Unit ⊕ Unit)) :=
  let v1 : Int := (t0.length : Int)
  let v2 : Bool := (ltI t5 v1)
  .br v2 (
    .br (inRange t5 t0.length) (
    let v3 : ByteArray := (t0.getD t5.toNat ByteArray.empty)
    let v4 : Bool := (v3.toList == t1.toList)
    .br v4 (
      .ret (.inr (.inl ()))) (
      let v5 : Int := (IntKind.i64.wrap (t5 + 1))
      .ret (.inl v5))) .fail) (
    .ret (.inr (.inr ())))
noncomputable def bautaref09_In_l2 (N : Nat) (t0 : (List ByteArray)) (t1 : ByteArray) (v : Int) : Option (Unit ⊕ Unit) := loopN (fun v => bautaref09_In_l2_T N t0 t1 v) N v
noncomputable def bautaref09_In_T (N : Nat) (t0 : (List ByteArray)) (t1 : ByteArray) : Tree Bool :=
  .call (bautaref09_In_l2 N t0 t1 0) fun y1 => (
  .alt y1 (fun y2 => (
    .ret true)) (fun y3 => (
    .ret false)))
noncomputable def bautaref09_In (N : Nat) (t0 : (List ByteArray)) (t1 : ByteArray) : Option Bool := (bautaref09_In_T N t0 t1).run some
/-! ### bauta/bautaref09.Word -/
noncomputable def bautaref09_Word_T (N : Nat) (t0 : ByteArray) : Tree Bool :=
  .call (bautaref09_In N [(⟨#[115, 101, 99, 114, 101, 116]⟩ : ByteArray), (⟨#[112, 117, 98, 108, 105, 99]⟩ : ByteArray), (⟨#[111, 117, 116]⟩ : ByteArray), (⟨#[115, 104, 111, 119]⟩ : ByteArray), (⟨#[102, 111, 114]⟩ : ByteArray), (⟨#[105, 110]⟩ : ByteArray), (⟨#[102, 110]⟩ : ByteArray)] t0) fun y1 => (
  .ret y1)
noncomputable def bautaref09_Word (N : Nat) (t0 : ByteArray) : Option Bool := (bautaref09_Word_T N t0).run some
/-! ### bauta/bautaref09.Words -/
noncomputable def bautaref09_Words_l10_T (N : Nat) (t0 : ByteArray) (t9 : Int) (t8 : Int) : Tree (Int ⊕ Int) :=
  let v1 : Int := (t0.size : Int)
  let v2 : Bool := (ltI t8 v1)
  .br v2 (
    .br (inRange t8 t0.size) (
    let v3 : Int := (bAt t0 t8.toNat)
    .call (bautaref09_letter N v3) fun y4 => (
    .br y4 (
      let v5 : Int := (IntKind.i64.wrap (t8 + 1))
      .ret (.inl v5)) (
      .br (inRange t8 t0.size) (
      let v6 : Int := (bAt t0 t8.toNat)
      .call (bautaref09_num N v6) fun y7 => (
      .br y7 (
        let v8 : Int := (IntKind.i64.wrap (t8 + 1))
        .ret (.inl v8)) (
        .br (inRange t8 t0.size) (
        let v9 : Int := (bAt t0 t8.toNat)
        let v10 : Bool := (v9 == 95)
        .br v10 (
          .call (bautaref09_letter N t9) fun y11 => (
          .br y11 (
            let v12 : Int := (IntKind.i64.wrap (t8 + 1))
            .ret (.inl v12)) (
            .ret (.inr t8)))) (
          .ret (.inr t8))) .fail))) .fail))) .fail) (
    .ret (.inr t8))
noncomputable def bautaref09_Words_l10 (N : Nat) (t0 : ByteArray) (t9 : Int) (v : Int) : Option Int := loopN (fun v => bautaref09_Words_l10_T N t0 t9 v) N v
noncomputable def bautaref09_Words_j17_T (N : Nat) (t6 : Int) (t8 : Int) (r1a : Int) : Tree (Unit ⊕ Unit) :=
  let v1 : Bool := (r1a == 1)
  .br v1 (
    let v2 : Int := (IntKind.i64.wrap (t8 - t6))
    let v3 : Bool := (ltI 32 v2)
    .br v3 (
      .ret (.inl ())) (
      .ret (.inr ()))) (
    .ret (.inr ()))
noncomputable def bautaref09_Words_j17 (N : Nat) (t6 : Int) (t8 : Int) (r1a : Int) : Option (Unit ⊕ Unit) := (bautaref09_Words_j17_T N t6 t8 r1a).run some
noncomputable def bautaref09_Words_j23_T (N : Nat) (t0 : ByteArray) (t6 : Int) (t8 : Int) (t114 : Bool) : Tree (Int ⊕ Unit) :=
  .br t114 (
    let v1 : Int := (IntKind.i64.wrap (t6 + 2))
    .ret (.inl v1)) (
    let v2 : Int := (IntKind.i64.wrap (t6 + 1))
    .br (leI 0 t6 && (leI t6 v2 && leI v2 (t0.size : Int))) (
    let v3 : ByteArray := (t0.extract t6.toNat v2.toNat)
    .call (bautaref09_In N [(⟨#[61]⟩ : ByteArray), (⟨#[59]⟩ : ByteArray), (⟨#[44]⟩ : ByteArray), (⟨#[40]⟩ : ByteArray), (⟨#[41]⟩ : ByteArray), (⟨#[123]⟩ : ByteArray), (⟨#[125]⟩ : ByteArray), (⟨#[43]⟩ : ByteArray), (⟨#[45]⟩ : ByteArray), (⟨#[38]⟩ : ByteArray), (⟨#[124]⟩ : ByteArray), (⟨#[94]⟩ : ByteArray), (⟨#[126]⟩ : ByteArray)] v3) fun y4 => (
    let v5 : Bool := (!y4)
    .br v5 (
      .ret (.inr ())) (
      .ret (.inl t8)))) .fail)
noncomputable def bautaref09_Words_j23 (N : Nat) (t0 : ByteArray) (t6 : Int) (t8 : Int) (t114 : Bool) : Option (Int ⊕ Unit) := (bautaref09_Words_j23_T N t0 t6 t8 t114).run some
noncomputable def bautaref09_Words_j21_T (N : Nat) (t0 : ByteArray) (t6 : Int) (t8 : Int) (t98 : Bool) : Tree (Int ⊕ Unit) :=
  .br t98 (
    let v1 : Int := (IntKind.i64.wrap (t6 + 3))
    .ret (.inl v1)) (
    let v2 : Int := (IntKind.i64.wrap (t6 + 2))
    let v3 : Int := (t0.size : Int)
    let v4 : Bool := (leI v2 v3)
    .br v4 (
      let v5 : Int := (IntKind.i64.wrap (t6 + 2))
      .br (leI 0 t6 && (leI t6 v5 && leI v5 (t0.size : Int))) (
      let v6 : ByteArray := (t0.extract t6.toNat v5.toNat)
      .call (bautaref09_In N [(⟨#[60, 60]⟩ : ByteArray), (⟨#[62, 62]⟩ : ByteArray), (⟨#[46, 46]⟩ : ByteArray)] v6) fun y7 => (
      .call (bautaref09_Words_j23 N t0 t6 t8 y7) fun y8 => (
      .alt y8 (fun y9 => (
        .ret (.inl y9))) (fun y10 => (
        .ret (.inr ())))))) .fail) (
      .call (bautaref09_Words_j23 N t0 t6 t8 false) fun y11 => (
      .alt y11 (fun y12 => (
        .ret (.inl y12))) (fun y13 => (
        .ret (.inr ()))))))
noncomputable def bautaref09_Words_j21 (N : Nat) (t0 : ByteArray) (t6 : Int) (t8 : Int) (t98 : Bool) : Option (Int ⊕ Unit) := (bautaref09_Words_j21_T N t0 t6 t8 t98).run some
noncomputable def bautaref09_Words_j10_T (N : Nat) (t0 : ByteArray) (t6 : Int) (t8 : Int) (t9 : Int) (t36 : Bool) : Tree (Unit ⊕ (Int × Int)) :=
  .br t36 (
    .call (bautaref09_Words_l10 N t0 t9 t8) fun y1 => (
    .br (leI 0 t6 && (leI t6 y1 && leI y1 (t0.size : Int))) (
    let v2 : ByteArray := (t0.extract t6.toNat y1.toNat)
    .call (bautaref09_Word N v2) fun y3 => (
    .br y3 (
      .call (bautaref09_Words_j17 N t6 y1 3) fun y4 => (
      .alt y4 (fun y5 => (
        .ret (.inl ()))) (fun y6 => (
        .ret (.inr (y1, 3)))))) (
      .call (bautaref09_letter N t9) fun y7 => (
      .br y7 (
        .call (bautaref09_Words_j17 N t6 y1 1) fun y8 => (
        .alt y8 (fun y9 => (
          .ret (.inl ()))) (fun y10 => (
          .ret (.inr (y1, 1)))))) (
        .call (bautaref09_Words_j17 N t6 y1 2) fun y11 => (
        .alt y11 (fun y12 => (
          .ret (.inl ()))) (fun y13 => (
          .ret (.inr (y1, 2)))))))))) .fail)) (
    let v14 : Int := (IntKind.i64.wrap (t6 + 3))
    let v15 : Int := (t0.size : Int)
    let v16 : Bool := (leI v14 v15)
    .br v16 (
      let v17 : Int := (IntKind.i64.wrap (t6 + 3))
      .br (leI 0 t6 && (leI t6 v17 && leI v17 (t0.size : Int))) (
      let v18 : ByteArray := (t0.extract t6.toNat v17.toNat)
      let v19 : Bool := (v18.toList == (⟨#[60, 60, 60]⟩ : ByteArray).toList)
      .call (bautaref09_Words_j21 N t0 t6 t8 v19) fun y20 => (
      .alt y20 (fun y21 => (
        .ret (.inr (y21, 4)))) (fun y22 => (
        .ret (.inl ()))))) .fail) (
      .call (bautaref09_Words_j21 N t0 t6 t8 false) fun y23 => (
      .alt y23 (fun y24 => (
        .ret (.inr (y24, 4)))) (fun y25 => (
        .ret (.inl ()))))))
noncomputable def bautaref09_Words_j10 (N : Nat) (t0 : ByteArray) (t6 : Int) (t8 : Int) (t9 : Int) (t36 : Bool) : Option (Unit ⊕ (Int × Int)) := (bautaref09_Words_j10_T N t0 t6 t8 t9 t36).run some
noncomputable def bautaref09_Words_j27_T (N : Nat) (t0 : ByteArray) (t6 : Int) (t8 : Int) (r0 : (List (Int × (ByteArray × Int)))) (r1a : Int) (r1b : ByteArray) (r1c : Int) : Tree ((Int × Int × (List (Int × (ByteArray × Int)))) ⊕ (Int × (List (Int × (ByteArray × Int))))) :=
  let v1 : Int := (r0.length : Int)
  let v2 : Bool := (v1 == 4000)
  .br v2 (
    .ret (.inl (t6, 150, []))) (
    .br (ltI (((r0.length : Int) + 1) * 32) 140737488355328) (
    let v3 : (List (Int × (ByteArray × Int))) := (r0 ++ [(r1a, (r1b, r1c))])
    let v4 : Int := (t0.size : Int)
    let v5 : Bool := (t6 == v4)
    .br v5 (
      .ret (.inl (0, 0, v3))) (
      .call (bautaref09_skip N t0 t8) fun y6 => (
      .ret (.inr (y6, v3))))) .fail)
noncomputable def bautaref09_Words_j27 (N : Nat) (t0 : ByteArray) (t6 : Int) (t8 : Int) (r0 : (List (Int × (ByteArray × Int)))) (r1a : Int) (r1b : ByteArray) (r1c : Int) : Option ((Int × Int × (List (Int × (ByteArray × Int)))) ⊕ (Int × (List (Int × (ByteArray × Int))))) := (bautaref09_Words_j27_T N t0 t6 t8 r0 r1a r1b r1c).run some
noncomputable def bautaref09_Words_l5_T (N : Nat) (t0 : ByteArray) (t6 : Int) (r0 : (List (Int × (ByteArray × Int)))) : Tree ((Int × (List (Int × (ByteArray × Int)))) ⊕ ((Int × Int × (List (Int × (ByteArray × Int)))) ⊕ (List (Int × (ByteArray × Int))))) :=
  let v1 : Int := (t0.size : Int)
  let v2 : Bool := (leI t6 v1)
  .br v2 (
    let v3 : Int := (IntKind.i64.wrap (t6 + 1))
    let v4 : Int := (t0.size : Int)
    let v5 : Bool := (ltI t6 v4)
    .br v5 (
      .br (inRange t6 t0.size) (
      let v6 : Int := (bAt t0 t6.toNat)
      .call (bautaref09_letter N v6) fun y7 => (
      .br y7 (
        .call (bautaref09_Words_j10 N t0 t6 v3 v6 true) fun y8 => (
        .alt y8 (fun y9 => (
          .ret (.inr (.inl (t6, 100, []))))) (fun y10 => (
          .br (leI 0 t6 && (leI t6 y10.1 && leI y10.1 (t0.size : Int))) (
          let v11 : ByteArray := (t0.extract t6.toNat y10.1.toNat)
          .call (bautaref09_Words_j27 N t0 t6 y10.1 r0 y10.2 v11 t6) fun y12 => (
          .alt y12 (fun y13 => (
            .ret (.inr (.inl (y13.1, y13.2.1, y13.2.2))))) (fun y14 => (
            .ret (.inl (y14.1, y14.2)))))) .fail)))) (
        .call (bautaref09_num N v6) fun y15 => (
        .call (bautaref09_Words_j10 N t0 t6 v3 v6 y15) fun y16 => (
        .alt y16 (fun y17 => (
          .ret (.inr (.inl (t6, 100, []))))) (fun y18 => (
          .br (leI 0 t6 && (leI t6 y18.1 && leI y18.1 (t0.size : Int))) (
          let v19 : ByteArray := (t0.extract t6.toNat y18.1.toNat)
          .call (bautaref09_Words_j27 N t0 t6 y18.1 r0 y18.2 v19 t6) fun y20 => (
          .alt y20 (fun y21 => (
            .ret (.inr (.inl (y21.1, y21.2.1, y21.2.2))))) (fun y22 => (
            .ret (.inl (y22.1, y22.2)))))) .fail))))))) .fail) (
      .call (bautaref09_Words_j27 N t0 t6 v3 r0 0 ByteArray.empty t6) fun y23 => (
      .alt y23 (fun y24 => (
        .ret (.inr (.inl (y24.1, y24.2.1, y24.2.2))))) (fun y25 => (
        .ret (.inl (y25.1, y25.2))))))) (
    .ret (.inr (.inr r0)))
noncomputable def bautaref09_Words_l5 (N : Nat) (t0 : ByteArray) (v : (Int × (List (Int × (ByteArray × Int))))) : Option ((Int × Int × (List (Int × (ByteArray × Int)))) ⊕ (List (Int × (ByteArray × Int)))) := loopN (fun v => bautaref09_Words_l5_T N t0 v.1 v.2) N v
noncomputable def bautaref09_Words_T (N : Nat) (t0 : ByteArray) : Tree (Int × Int × (List (Int × (ByteArray × Int)))) :=
  let v1 : Int := (t0.size : Int)
  let v2 : Bool := (ltI 20000 v1)
  .br v2 (
    .ret (0, 150, [])) (
    .call (bautaref09_skip N t0 0) fun y3 => (
    .call (bautaref09_Words_l5 N t0 (y3, [])) fun y4 => (
    .alt y4 (fun y5 => (
      .ret (y5.1, y5.2.1, y5.2.2))) (fun y6 => (
      .ret (0, 0, y6))))))
noncomputable def bautaref09_Words (N : Nat) (t0 : ByteArray) : Option (Int × Int × (List (Int × (ByteArray × Int)))) := (bautaref09_Words_T N t0).run some
/-! ### bauta/bautaref09.Same -/
noncomputable def bautaref09_Same_l4_T (N : Nat) (t0 : (List (Int × (ByteArray × Int)))) (t1 : (List (Int × (ByteArray × Int)))) (t2 : Bool) (t7 : Int) : Tree (Int ⊕ (Unit ⊕ Unit)) :=
  let v1 : Int := (t0.length : Int)
  let v2 : Bool := (ltI t7 v1)
  .br v2 (
    .br (inRange t7 t0.length) (
    let v3 : (Int × (ByteArray × Int)) := (t0.getD t7.toNat (0, (ByteArray.empty, 0)))
    .br (inRange t7 t1.length) (
    let v4 : (Int × (ByteArray × Int)) := (t1.getD t7.toNat (0, (ByteArray.empty, 0)))
    let v5 : Bool := (v3.1 != v4.1)
    .br v5 (
      .ret (.inr (.inl ()))) (
      .br (inRange t7 t0.length) (
      let v6 : (Int × (ByteArray × Int)) := (t0.getD t7.toNat (0, (ByteArray.empty, 0)))
      .br (inRange t7 t1.length) (
      let v7 : (Int × (ByteArray × Int)) := (t1.getD t7.toNat (0, (ByteArray.empty, 0)))
      let v8 : Bool := (!(v6.2.1.toList == v7.2.1.toList))
      .br v8 (
        .ret (.inr (.inl ()))) (
        .br t2 (
          .br (inRange t7 t0.length) (
          let v9 : (Int × (ByteArray × Int)) := (t0.getD t7.toNat (0, (ByteArray.empty, 0)))
          .br (inRange t7 t1.length) (
          let v10 : (Int × (ByteArray × Int)) := (t1.getD t7.toNat (0, (ByteArray.empty, 0)))
          let v11 : Bool := (v9.2.2 != v10.2.2)
          .br v11 (
            .ret (.inr (.inl ()))) (
            let v12 : Int := (IntKind.i64.wrap (t7 + 1))
            .ret (.inl v12))) .fail) .fail) (
          let v13 : Int := (IntKind.i64.wrap (t7 + 1))
          .ret (.inl v13)))) .fail) .fail)) .fail) .fail) (
    .ret (.inr (.inr ())))
noncomputable def bautaref09_Same_l4 (N : Nat) (t0 : (List (Int × (ByteArray × Int)))) (t1 : (List (Int × (ByteArray × Int)))) (t2 : Bool) (v : Int) : Option (Unit ⊕ Unit) := loopN (fun v => bautaref09_Same_l4_T N t0 t1 t2 v) N v
noncomputable def bautaref09_Same_T (N : Nat) (t0 : (List (Int × (ByteArray × Int)))) (t1 : (List (Int × (ByteArray × Int)))) (t2 : Bool) : Tree Bool :=
  let v1 : Int := (t0.length : Int)
  let v2 : Int := (t1.length : Int)
  let v3 : Bool := (v1 != v2)
  .br v3 (
    .ret false) (
    .call (bautaref09_Same_l4 N t0 t1 t2 0) fun y4 => (
    .alt y4 (fun y5 => (
      .ret false)) (fun y6 => (
      .ret true))))
noncomputable def bautaref09_Same (N : Nat) (t0 : (List (Int × (ByteArray × Int)))) (t1 : (List (Int × (ByteArray × Int)))) (t2 : Bool) : Option Bool := (bautaref09_Same_T N t0 t1 t2).run some
/-! ### bauta/lex.Word -/
noncomputable def lex_Word_T (N : Nat) (t0 : ByteArray) : Tree Bool :=
  .call (lex_isWord N t0) fun y1 => (
  .ret y1)
noncomputable def lex_Word (N : Nat) (t0 : ByteArray) : Option Bool := (lex_Word_T N t0).run some
/-! ### bauta/lex.Name -/
noncomputable def lex_Name_T (N : Nat) (t0 : ByteArray) : Tree Bool :=
  let v1 : Bool := (!(t0.toList == ByteArray.empty.toList))
  .br v1 (
    .br (inRange 0 t0.size) (
    let v2 : Int := (bAt t0 0)
    .call (lex_letter N v2) fun y3 => (
    .br y3 (
      .call (lex_run_3 N t0) fun y4 => (
      let v5 : Int := (t0.size : Int)
      let v6 : Bool := (y4 == v5)
      .br v6 (
        let v7 : Int := (t0.size : Int)
        let v8 : Bool := (leI v7 32)
        .br v8 (
          .call (lex_isWord N t0) fun y9 => (
          let v10 : Bool := (!y9)
          .ret v10)) (
          .ret false)) (
        .ret false))) (
      .ret false))) .fail) (
    .ret false)
noncomputable def lex_Name (N : Nat) (t0 : ByteArray) : Option Bool := (lex_Name_T N t0).run some
/-! ### bauta/bautalaw09.lives -/
noncomputable def bautalaw09_lives_T (N : Nat) : Tree Bool :=
  .call (lex_Words N (⟨#[97, 60, 60, 60, 51, 59]⟩ : ByteArray)) fun y1 => (
  let v2 : Bool := (y1.2.1 == 0)
  .br v2 (
    let v3 : Int := (y1.2.2.length : Int)
    let v4 : Bool := (v3 == 5)
    .br v4 (
      .br (inRange 1 y1.2.2.length) (
      let v5 : (Int × (ByteArray × Int)) := (y1.2.2.getD 1 (0, (ByteArray.empty, 0)))
      let v6 : Bool := (v5.2.1.toList == (⟨#[60, 60, 60]⟩ : ByteArray).toList)
      .br v6 (
        .call (lex_Word N (⟨#[102, 110]⟩ : ByteArray)) fun y7 => (
        .br y7 (
          .call (lex_Name N (⟨#[102, 120]⟩ : ByteArray)) fun y8 => (
          .ret y8)) (
          .ret false))) (
        .ret false)) .fail) (
      .ret false)) (
    .ret false))
noncomputable def bautalaw09_lives (N : Nat) : Option Bool := (bautalaw09_lives_T N).run some
/-! ### bauta/bautalaw09.LexWords -/
noncomputable def bautalaw09_LexWords_T (N : Nat) (t0 : ByteArray) : Tree Bool :=
  .call (lex_Words N t0) fun y1 => (
  .call (bautaref09_Words N t0) fun y2 => (
  .call (bautaref09_Same N y1.2.2 y2.2.2 true) fun y3 => (
  .br y3 (
    let v4 : Bool := (y1.1 == y2.1)
    .br v4 (
      let v5 : Bool := (y1.2.1 == y2.2.1)
      .br v5 (
        .call (bautalaw09_lives N) fun y6 => (
        .ret y6)) (
        .ret false)) (
      .ret false)) (
    .ret false))))
noncomputable def bautalaw09_LexWords (N : Nat) (t0 : ByteArray) : Option Bool := (bautalaw09_LexWords_T N t0).run some
/-! ### bauta/bautalaw09.LexOrder -/
noncomputable def bautalaw09_LexOrder_l5_T (N : Nat) (t0 : ByteArray) (r0 : (List (Int × (ByteArray × Int)))) (t6 : Int) : Tree (Int ⊕ (Unit ⊕ Unit)) :=
  let v1 : Int := (r0.length : Int)
  let v2 : Bool := (ltI t6 v1)
  .br v2 (
    .br (inRange t6 r0.length) (
    let v3 : (Int × (ByteArray × Int)) := (r0.getD t6.toNat (0, (ByteArray.empty, 0)))
    let v4 : Bool := (ltI v3.2.2 0)
    .br v4 (
      .ret (.inr (.inl ()))) (
      let v5 : Int := (t0.size : Int)
      let v6 : Bool := (ltI v5 v3.2.2)
      .br v6 (
        .ret (.inr (.inl ()))) (
        let v7 : Int := (v3.2.1.size : Int)
        let v8 : Int := (t0.size : Int)
        let v9 : Int := (IntKind.i64.wrap (v8 - v3.2.2))
        let v10 : Bool := (ltI v9 v7)
        .br v10 (
          .ret (.inr (.inl ()))) (
          let v11 : Int := (v3.2.1.size : Int)
          let v12 : Int := (IntKind.i64.wrap (v3.2.2 + v11))
          .br (leI 0 v3.2.2 && (leI v3.2.2 v12 && leI v12 (t0.size : Int))) (
          let v13 : ByteArray := (t0.extract v3.2.2.toNat v12.toNat)
          let v14 : Bool := (!(v13.toList == v3.2.1.toList))
          .br v14 (
            .ret (.inr (.inl ()))) (
            let v15 : Bool := (ltI 0 t6)
            .br v15 (
              let v16 : Int := (IntKind.i64.wrap (t6 - 1))
              .br (inRange v16 r0.length) (
              let v17 : (Int × (ByteArray × Int)) := (r0.getD v16.toNat (0, (ByteArray.empty, 0)))
              let v18 : Int := (IntKind.i64.wrap (t6 - 1))
              .br (inRange v18 r0.length) (
              let v19 : (Int × (ByteArray × Int)) := (r0.getD v18.toNat (0, (ByteArray.empty, 0)))
              let v20 : Int := (v19.2.1.size : Int)
              let v21 : Int := (IntKind.i64.wrap (v17.2.2 + v20))
              let v22 : Bool := (ltI v3.2.2 v21)
              .br v22 (
                .ret (.inr (.inl ()))) (
                let v23 : Bool := (v3.1 == 0)
                let v24 : Int := (r0.length : Int)
                let v25 : Int := (IntKind.i64.wrap (v24 - 1))
                let v26 : Bool := (t6 == v25)
                let v27 : Bool := (!(v23 == v26))
                .br v27 (
                  .ret (.inr (.inl ()))) (
                  let v28 : Int := (IntKind.i64.wrap (t6 + 1))
                  .ret (.inl v28)))) .fail) .fail) (
              let v29 : Bool := (v3.1 == 0)
              let v30 : Int := (r0.length : Int)
              let v31 : Int := (IntKind.i64.wrap (v30 - 1))
              let v32 : Bool := (t6 == v31)
              let v33 : Bool := (!(v29 == v32))
              .br v33 (
                .ret (.inr (.inl ()))) (
                let v34 : Int := (IntKind.i64.wrap (t6 + 1))
                .ret (.inl v34))))) .fail)))) .fail) (
    .ret (.inr (.inr ())))
noncomputable def bautalaw09_LexOrder_l5 (N : Nat) (t0 : ByteArray) (r0 : (List (Int × (ByteArray × Int)))) (v : Int) : Option (Unit ⊕ Unit) := loopN (fun v => bautalaw09_LexOrder_l5_T N t0 r0 v) N v
noncomputable def bautalaw09_LexOrder_T (N : Nat) (t0 : ByteArray) : Tree Bool :=
  .call (lex_Words N t0) fun y1 => (
  let v2 : Bool := (y1.2.1 != 0)
  .br v2 (
    let v3 : Int := (y1.2.2.length : Int)
    let v4 : Bool := (v3 == 0)
    .br v4 (
      .call (bautalaw09_lives N) fun y5 => (
      .ret y5)) (
      .ret false)) (
    .call (bautalaw09_LexOrder_l5 N t0 y1.2.2 0) fun y6 => (
    .alt y6 (fun y7 => (
      .ret false)) (fun y8 => (
      let v9 : Int := (y1.2.2.length : Int)
      let v10 : Bool := (ltI 0 v9)
      .br v10 (
        .call (bautalaw09_lives N) fun y11 => (
        .ret y11)) (
        .ret false))))))
noncomputable def bautalaw09_LexOrder (N : Nat) (t0 : ByteArray) : Option Bool := (bautalaw09_LexOrder_T N t0).run some
/-! ### bauta/bautaref09.Name -/
noncomputable def bautaref09_Name_l4_T (N : Nat) (t0 : ByteArray) (t3 : Int) : Tree (Int ⊕ (Unit ⊕ Unit)) :=
  let v1 : Int := (t0.size : Int)
  let v2 : Bool := (ltI t3 v1)
  .br v2 (
    .br (inRange t3 t0.size) (
    let v3 : Int := (bAt t0 t3.toNat)
    .call (bautaref09_letter N v3) fun y4 => (
    let v5 : Bool := (!y4)
    .br v5 (
      .br (inRange t3 t0.size) (
      let v6 : Int := (bAt t0 t3.toNat)
      .call (bautaref09_num N v6) fun y7 => (
      let v8 : Bool := (!y7)
      .br v8 (
        .br (inRange t3 t0.size) (
        let v9 : Int := (bAt t0 t3.toNat)
        let v10 : Bool := (v9 != 95)
        .br v10 (
          .ret (.inr (.inl ()))) (
          let v11 : Int := (IntKind.i64.wrap (t3 + 1))
          .ret (.inl v11))) .fail) (
        let v12 : Int := (IntKind.i64.wrap (t3 + 1))
        .ret (.inl v12)))) .fail) (
      let v13 : Int := (IntKind.i64.wrap (t3 + 1))
      .ret (.inl v13)))) .fail) (
    .ret (.inr (.inr ())))
noncomputable def bautaref09_Name_l4 (N : Nat) (t0 : ByteArray) (v : Int) : Option (Unit ⊕ Unit) := loopN (fun v => bautaref09_Name_l4_T N t0 v) N v
noncomputable def bautaref09_Name_j3_T (N : Nat) (t0 : ByteArray) : Tree Bool :=
  .call (bautaref09_Name_l4 N t0 0) fun y1 => (
  .alt y1 (fun y2 => (
    .ret false)) (fun y3 => (
    .ret true)))
noncomputable def bautaref09_Name_j3 (N : Nat) (t0 : ByteArray) : Option Bool := (bautaref09_Name_j3_T N t0).run some
noncomputable def bautaref09_Name_T (N : Nat) (t0 : ByteArray) : Tree Bool :=
  let v1 : Bool := (t0.toList == ByteArray.empty.toList)
  .br v1 (
    .ret false) (
    let v2 : Int := (t0.size : Int)
    let v3 : Bool := (ltI 32 v2)
    .br v3 (
      .ret false) (
      .br (inRange 0 t0.size) (
      let v4 : Int := (bAt t0 0)
      .call (bautaref09_letter N v4) fun y5 => (
      let v6 : Bool := (!y5)
      .br v6 (
        .ret false) (
        .call (bautaref09_Word N t0) fun y7 => (
        .br y7 (
          .ret false) (
          .call (bautaref09_Name_j3 N t0) fun y8 => (
          .ret y8)))))) .fail))
noncomputable def bautaref09_Name (N : Nat) (t0 : ByteArray) : Option Bool := (bautaref09_Name_T N t0).run some
/-! ### bauta/bautalaw09.LexNames -/
noncomputable def bautalaw09_LexNames_T (N : Nat) (t0 : ByteArray) : Tree Bool :=
  .call (lex_Word N t0) fun y1 => (
  .call (bautaref09_Word N t0) fun y2 => (
  let v3 : Bool := (y1 == y2)
  .br v3 (
    .call (lex_Name N t0) fun y4 => (
    .call (bautaref09_Name N t0) fun y5 => (
    let v6 : Bool := (y4 == y5)
    .br v6 (
      .call (bautalaw09_lives N) fun y7 => (
      .ret y7)) (
      .ret false)))) (
    .ret false)))
noncomputable def bautalaw09_LexNames (N : Nat) (t0 : ByteArray) : Option Bool := (bautalaw09_LexNames_T N t0).run some
/-! ### (*strings.Builder).copyCheck -/
noncomputable def strings_Builder_copyCheck (N : Nat) : Option Unit := some ()
/-! ### (*strings.Builder).WriteByte -/
noncomputable def strings_Builder_WriteByte_T (N : Nat) (t1 : Int) (r1 : (List Int)) : Tree (List Int) :=
  .call (strings_Builder_copyCheck N) fun y1 => (
  .br (ltI (((r1.length : Int) + 1) * 1) 140737488355328) (
  let v2 : (List Int) := (r1 ++ [t1])
  .ret v2) .fail)
noncomputable def strings_Builder_WriteByte (N : Nat) (t1 : Int) (r1 : (List Int)) : Option (List Int) := (strings_Builder_WriteByte_T N t1 r1).run some
/-! ### (*strings.Builder).WriteString -/
noncomputable def strings_Builder_WriteString_T (N : Nat) (t1 : ByteArray) (r1 : (List Int)) : Tree (Int × (List Int)) :=
  .call (strings_Builder_copyCheck N) fun y1 => (
  .br (ltI (((r1.length : Int) + ((sBytes t1).length : Int)) * 1) 140737488355328) (
  let v2 : (List Int) := (r1 ++ (sBytes t1))
  let v3 : Int := (t1.size : Int)
  .ret (v3, v2)) .fail)
noncomputable def strings_Builder_WriteString (N : Nat) (t1 : ByteArray) (r1 : (List Int)) : Option (Int × (List Int)) := (strings_Builder_WriteString_T N t1 r1).run some
/-! ### (*strings.Builder).String -/
noncomputable def strings_Builder_String_T (N : Nat) (r1 : (List Int)) : Tree ByteArray :=
  let v1 : Int := (r1.length : Int)
  .br (decide (v1 = r1.length)) (
  let v2 : ByteArray := (bytesS r1)
  .ret v2) .fail
noncomputable def strings_Builder_String (N : Nat) (r1 : (List Int)) : Option ByteArray := (strings_Builder_String_T N r1).run some
/-! ### bauta/lex.Join -/
noncomputable def lex_Join_l3_T (N : Nat) (t6 : (List (Int × (ByteArray × Int)))) (t7 : Int) (t8 : Int) (r1 : (List Int)) : Tree ((Int × (List Int)) ⊕ (List Int)) :=
  let v1 : Bool := (ltI t8 t7)
  .br v1 (
    .br (inRange t8 t6.length) (
    let v2 : (Int × (ByteArray × Int)) := (t6.getD t8.toNat (0, (ByteArray.empty, 0)))
    let v3 : Bool := (ltI 0 t8)
    .br v3 (
      .call (strings_Builder_WriteByte N 32 r1) fun y4 => (
      .call (strings_Builder_WriteString N v2.2.1 y4) fun y5 => (
      let v6 : Int := (IntKind.i64.wrap (t8 + 1))
      .ret (.inl (v6, y5.2))))) (
      .call (strings_Builder_WriteString N v2.2.1 r1) fun y7 => (
      let v8 : Int := (IntKind.i64.wrap (t8 + 1))
      .ret (.inl (v8, y7.2))))) .fail) (
    .ret (.inr r1))
noncomputable def lex_Join_l3 (N : Nat) (t6 : (List (Int × (ByteArray × Int)))) (t7 : Int) (v : (Int × (List Int))) : Option (List Int) := loopN (fun v => lex_Join_l3_T N t6 t7 v.1 v.2) N v
noncomputable def lex_Join_T (N : Nat) (t0 : (List (Int × (ByteArray × Int)))) : Tree ByteArray :=
  let v1 : Int := (t0.length : Int)
  .call (lex_Join_l3 N t0 v1 (0, [])) fun y2 => (
  .call (strings_Builder_String N y2) fun y3 => (
  .ret y3))
noncomputable def lex_Join (N : Nat) (t0 : (List (Int × (ByteArray × Int)))) : Option ByteArray := (lex_Join_T N t0).run some
/-! ### bauta/bautaref09.Join -/
noncomputable def bautaref09_Join_j7_T (N : Nat) (t0 : (List (Int × (ByteArray × Int)))) (t3 : ByteArray) (t4 : Int) : Tree ByteArray :=
  .br (inRange t4 t0.length) (
  let v1 : (Int × (ByteArray × Int)) := (t0.getD t4.toNat (0, (ByteArray.empty, 0)))
  .br (leI ((t3.size : Int) + v1.2.1.size) 9223372036854775807) (
  let v2 : ByteArray := (t3 ++ v1.2.1)
  .ret v2) .fail) .fail
noncomputable def bautaref09_Join_j7 (N : Nat) (t0 : (List (Int × (ByteArray × Int)))) (t3 : ByteArray) (t4 : Int) : Option ByteArray := (bautaref09_Join_j7_T N t0 t3 t4).run some
noncomputable def bautaref09_Join_l3_T (N : Nat) (t0 : (List (Int × (ByteArray × Int)))) (t3 : ByteArray) (t4 : Int) : Tree ((ByteArray × Int) ⊕ ByteArray) :=
  let v1 : Int := (t0.length : Int)
  let v2 : Bool := (ltI t4 v1)
  .br v2 (
    let v3 : Bool := (ltI 0 t4)
    .br v3 (
      .br (leI ((t3.size : Int) + (⟨#[32]⟩ : ByteArray).size) 9223372036854775807) (
      let v4 : ByteArray := (t3 ++ (⟨#[32]⟩ : ByteArray))
      .call (bautaref09_Join_j7 N t0 v4 t4) fun y5 => (
      let v6 : Int := (IntKind.i64.wrap (t4 + 1))
      .ret (.inl (y5, v6)))) .fail) (
      .call (bautaref09_Join_j7 N t0 t3 t4) fun y7 => (
      let v8 : Int := (IntKind.i64.wrap (t4 + 1))
      .ret (.inl (y7, v8))))) (
    .ret (.inr t3))
noncomputable def bautaref09_Join_l3 (N : Nat) (t0 : (List (Int × (ByteArray × Int)))) (v : (ByteArray × Int)) : Option ByteArray := loopN (fun v => bautaref09_Join_l3_T N t0 v.1 v.2) N v
noncomputable def bautaref09_Join_T (N : Nat) (t0 : (List (Int × (ByteArray × Int)))) : Tree ByteArray :=
  .call (bautaref09_Join_l3 N t0 (ByteArray.empty, 0)) fun y1 => (
  .ret y1)
noncomputable def bautaref09_Join (N : Nat) (t0 : (List (Int × (ByteArray × Int)))) : Option ByteArray := (bautaref09_Join_T N t0).run some
/-! ### bauta/bautalaw09.LexJoins -/
noncomputable def bautalaw09_LexJoins_T (N : Nat) (t0 : ByteArray) : Tree Bool :=
  .call (lex_Words N t0) fun y1 => (
  let v2 : Bool := (y1.2.1 != 0)
  .br v2 (
    let v3 : Int := (y1.2.2.length : Int)
    let v4 : Bool := (v3 == 0)
    .br v4 (
      .call (bautalaw09_lives N) fun y5 => (
      .ret y5)) (
      .ret false)) (
    .call (lex_Join N y1.2.2) fun y6 => (
    .call (lex_Words N y6) fun y7 => (
    let v8 : Int := (y6.size : Int)
    let v9 : Bool := (ltI 20000 v8)
    .br v9 (
      let v10 : Bool := (y7.2.1 == 150)
      .br v10 (
        .call (bautalaw09_lives N) fun y11 => (
        .ret y11)) (
        .ret false)) (
      .call (bautaref09_Join N y1.2.2) fun y12 => (
      let v13 : Bool := (y6.toList == y12.toList)
      .br v13 (
        let v14 : Bool := (y7.2.1 == 0)
        .br v14 (
          .call (bautaref09_Same N y1.2.2 y7.2.2 false) fun y15 => (
          .br y15 (
            .call (bautalaw09_lives N) fun y16 => (
            .ret y16)) (
            .ret false))) (
          .ret false)) (
        .ret false)))))))
noncomputable def bautalaw09_LexJoins (N : Nat) (t0 : ByteArray) : Option Bool := (bautalaw09_LexJoins_T N t0).run some
end Go.Proofs.YtedadodniodnaaaV
