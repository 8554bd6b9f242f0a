/- Place: what the functions come to (printed by wip/ext.py). -/
import Derived.Test.YtklnpdnfjponpaaDoorVL
namespace Go.Proofs.YtklnpdnfjponpaaDoorV
open Go.RowKit
set_option linter.unusedVariables false
set_option maxRecDepth 100000
/-! ### bauta/bautalaw29.short -/
noncomputable def bautalaw29_short_T (N : Nat) (t0 : ByteArray) : Tree ByteArray :=
  let v1 : Int := (t0.size : Int)
  let v2 : Bool := (ltI 2000 v1)
  .br v2 (
    .br (leI 0 2000 && leI 2000 (t0.size : Int)) (
    let v3 : ByteArray := (t0.extract 0 2000)
    .ret v3) .fail) (
    .ret t0)
noncomputable def bautalaw29_short (N : Nat) (t0 : ByteArray) : Option ByteArray := (bautalaw29_short_T N t0).run some
/-! ### bauta/place.inside -/
noncomputable def place_inside_T (N : Nat) (t0 : ByteArray) (t1 : Int) : Tree Int :=
  let v1 : Int := (if 0 > t1 then 0 else t1)
  let v2 : Int := (t0.size : Int)
  let v3 : Int := (if v2 < v1 then v2 else v1)
  .ret v3
noncomputable def place_inside (N : Nat) (t0 : ByteArray) (t1 : Int) : Option Int := (place_inside_T N t0 t1).run some
/-! ### strings.Count -/
/-! ### strings.LastIndexByte -/
/-! ### bauta/place.start -/
noncomputable def place_start_T (N : Nat) (t0 : ByteArray) (t1 : Int) : Tree Int :=
  .br (leI 0 t1 && leI t1 (t0.size : Int)) (
  let v1 : ByteArray := (t0.extract 0 t1.toNat)
  .call (strings_LastIndexByte N v1 10) fun y2 => (
  let v3 : Int := (IntKind.i64.wrap (y2 + 1))
  .ret v3)) .fail
noncomputable def place_start (N : Nat) (t0 : ByteArray) (t1 : Int) : Option Int := (place_start_T N t0 t1).run some
/-! ### bauta/place.of -/
noncomputable def place_of_T (N : Nat) (t0 : ByteArray) (t1 : Int) : Tree (Int × Int) :=
  .call (place_inside N t0 t1) fun y1 => (
  .br (leI 0 y1 && leI y1 (t0.size : Int)) (
  let v2 : ByteArray := (t0.extract 0 y1.toNat)
  .call (strings_Count N v2 (⟨#[10]⟩ : ByteArray)) fun y3 => (
  let v4 : Int := (IntKind.i64.wrap (y3 + 1))
  .call (place_start N t0 y1) fun y5 => (
  let v6 : Int := (IntKind.i64.wrap (y1 - y5))
  let v7 : Int := (IntKind.i64.wrap (v6 + 1))
  .ret (v4, v7)))) .fail)
noncomputable def place_of (N : Nat) (t0 : ByteArray) (t1 : Int) : Option (Int × Int) := (place_of_T N t0 t1).run some
/-! ### bauta/place.Of -/
noncomputable def place_Of_T (N : Nat) (t0 : ByteArray) (t1 : Int) : Tree (Int × Int) :=
  .call (place_of N t0 t1) fun y1 => (
  .ret (y1.1, y1.2))
noncomputable def place_Of (N : Nat) (t0 : ByteArray) (t1 : Int) : Option (Int × Int) := (place_Of_T N t0 t1).run some
/-! ### bauta/bautaref29.Of -/
noncomputable def bautaref29_Of_j5_T (N : Nat) (t0 : ByteArray) (t6 : Int) (t7 : Int) (t8 : Int) : Tree (Int × Int × Int) :=
  .br (inRange t8 t0.size) (
  let v1 : Int := (bAt t0 t8.toNat)
  let v2 : Bool := (v1 == 10)
  .br v2 (
    let v3 : Int := (IntKind.i64.wrap (t6 + 1))
    let v4 : Int := (IntKind.i64.wrap (t8 + 1))
    .ret (v3, 1, v4)) (
    let v5 : Int := (IntKind.i64.wrap (t7 + 1))
    let v6 : Int := (IntKind.i64.wrap (t8 + 1))
    .ret (t6, v5, v6))) .fail
noncomputable def bautaref29_Of_j5 (N : Nat) (t0 : ByteArray) (t6 : Int) (t7 : Int) (t8 : Int) : Option (Int × Int × Int) := (bautaref29_Of_j5_T N t0 t6 t7 t8).run some
noncomputable def bautaref29_Of_l3_T (N : Nat) (t0 : ByteArray) (t1 : Int) (t6 : Int) (t7 : Int) (t8 : Int) : Tree ((Int × Int × Int) ⊕ (Int × Int)) :=
  let v1 : Int := (t0.size : Int)
  let v2 : Bool := (ltI t8 v1)
  .br v2 (
    let v3 : Bool := (ltI t8 t1)
    .br v3 (
      .call (bautaref29_Of_j5 N t0 t6 t7 t8) fun y4 => (
      .ret (.inl (y4.1, y4.2.1, y4.2.2)))) (
      .ret (.inr (t6, t7)))) (
    .ret (.inr (t6, t7)))
noncomputable def bautaref29_Of_l3 (N : Nat) (t0 : ByteArray) (t1 : Int) (v : (Int × Int × Int)) : Option (Int × Int) := loopN (fun v => bautaref29_Of_l3_T N t0 t1 v.1 v.2.1 v.2.2) N v
noncomputable def bautaref29_Of_T (N : Nat) (t0 : ByteArray) (t1 : Int) : Tree (Int × Int) :=
  .call (bautaref29_Of_l3 N t0 t1 (1, 1, 0)) fun y1 => (
  .ret (y1.1, y1.2))
noncomputable def bautaref29_Of (N : Nat) (t0 : ByteArray) (t1 : Int) : Option (Int × Int) := (bautaref29_Of_T N t0 t1).run some
/-! ### strings.IndexByte -/
/-! ### bauta/place.begins -/
noncomputable def place_begins_l3_T (N : Nat) (t0 : ByteArray) (t1 : Int) (t6 : Int) (t7 : Int) : Tree ((Int × Int) ⊕ (Unit ⊕ Int)) :=
  let v1 : Bool := (ltI t7 t1)
  .br v1 (
    .br (leI 0 t6 && leI t6 (t0.size : Int)) (
    let v2 : ByteArray := (t0.extract t6.toNat t0.size)
    .call (strings_IndexByte N v2 10) fun y3 => (
    let v4 : Bool := (ltI y3 0)
    .br v4 (
      .ret (.inr (.inl ()))) (
      let v5 : Int := (IntKind.i64.wrap (y3 + 1))
      let v6 : Int := (IntKind.i64.wrap (t6 + v5))
      let v7 : Int := (IntKind.i64.wrap (t7 + 1))
      .ret (.inl (v6, v7))))) .fail) (
    .ret (.inr (.inr t6)))
noncomputable def place_begins_l3 (N : Nat) (t0 : ByteArray) (t1 : Int) (v : (Int × Int)) : Option (Unit ⊕ Int) := loopN (fun v => place_begins_l3_T N t0 t1 v.1 v.2) N v
noncomputable def place_begins_T (N : Nat) (t0 : ByteArray) (t1 : Int) : Tree (Int × Bool) :=
  .call (place_begins_l3 N t0 t1 (0, 1)) fun y1 => (
  .alt y1 (fun y2 => (
    .ret (0, false))) (fun y3 => (
    let v4 : Bool := (ltI 0 t1)
    .ret (y3, v4))))
noncomputable def place_begins (N : Nat) (t0 : ByteArray) (t1 : Int) : Option (Int × Bool) := (place_begins_T N t0 t1).run some
/-! ### bauta/place.end -/
noncomputable def place_end_T (N : Nat) (t0 : ByteArray) (t1 : Int) : Tree Int :=
  .br (leI 0 t1 && leI t1 (t0.size : Int)) (
  let v1 : ByteArray := (t0.extract t1.toNat t0.size)
  .call (strings_IndexByte N v1 10) fun y2 => (
  let v3 : Bool := (leI 0 y2)
  .br v3 (
    let v4 : Int := (IntKind.i64.wrap (t1 + y2))
    .ret v4) (
    let v5 : Int := (t0.size : Int)
    .ret v5))) .fail
noncomputable def place_end (N : Nat) (t0 : ByteArray) (t1 : Int) : Option Int := (place_end_T N t0 t1).run some
/-! ### bauta/place.At -/
noncomputable def place_At_T (N : Nat) (t0 : ByteArray) (t1 : Int) (t2 : Int) : Tree (Int × Bool) :=
  .call (place_begins N t0 t1) fun y1 => (
  let v2 : Bool := (!y1.2)
  .br v2 (
    .ret (0, false)) (
    let v3 : Bool := (ltI t2 1)
    .br v3 (
      .ret (0, false)) (
      let v4 : Int := (IntKind.i64.wrap (t2 - 1))
      .call (place_end N t0 y1.1) fun y5 => (
      let v6 : Int := (IntKind.i64.wrap (y5 - y1.1))
      let v7 : Bool := (ltI v6 v4)
      .br v7 (
        .ret (0, false)) (
        let v8 : Int := (IntKind.i64.wrap (y1.1 + t2))
        let v9 : Int := (IntKind.i64.wrap (v8 - 1))
        .ret (v9, true))))))
noncomputable def place_At (N : Nat) (t0 : ByteArray) (t1 : Int) (t2 : Int) : Option (Int × Bool) := (place_At_T N t0 t1 t2).run some
/-! ### strconv.Itoa -/
/-! ### bauta/place.word -/
noncomputable def place_word_T (N : Nat) (t0 : Int) : Tree ByteArray :=
  let v1 : Bool := (t0 == 0)
  .br v1 (
    .ret (⟨#[102, 105, 110, 101]⟩ : ByteArray)) (
    let v2 : Bool := (t0 == 100)
    .br v2 (
      .ret (⟨#[115, 121, 110, 116, 97, 120]⟩ : ByteArray)) (
      let v3 : Bool := (t0 == 120)
      .br v3 (
        .ret (⟨#[116, 121, 112, 101]⟩ : ByteArray)) (
        let v4 : Bool := (t0 == 130)
        .br v4 (
          .ret (⟨#[115, 101, 99, 114, 101, 116, 32, 102, 108, 111, 119]⟩ : ByteArray)) (
          let v5 : Bool := (t0 == 140)
          .br v5 (
            .ret (⟨#[111, 114, 100, 101, 114]⟩ : ByteArray)) (
            let v6 : Bool := (t0 == 150)
            .br v6 (
              .ret (⟨#[114, 101, 115, 111, 117, 114, 99, 101]⟩ : ByteArray)) (
              .call (strconv_Itoa N t0) fun y7 => (
              .br (leI (((⟨#[101, 114, 114, 111, 114, 32]⟩ : ByteArray).size : Int) + y7.size) 9223372036854775807) (
              let v8 : ByteArray := ((⟨#[101, 114, 114, 111, 114, 32]⟩ : ByteArray) ++ y7)
              .ret v8) .fail)))))))
noncomputable def place_word (N : Nat) (t0 : Int) : Option ByteArray := (place_word_T N t0).run some
/-! ### bauta/place.plain -/
noncomputable def place_plain_l3_T (N : Nat) (t9 : Int) (t10 : Int) (r0 : (List Int)) : Tree ((Int × (List Int)) ⊕ (List Int)) :=
  let v1 : Bool := (ltI t10 t9)
  .br v1 (
    .br (inRange t10 r0.length) (
    let v2 : Int := (r0.getD t10.toNat 0)
    let v3 : Bool := (ltI v2 32)
    .br v3 (
      .br (inRange t10 r0.length) (
      let v4 : (List Int) := (r0.set t10.toNat 32)
      let v5 : Int := (IntKind.i64.wrap (t10 + 1))
      .ret (.inl (v5, v4))) .fail) (
      let v6 : Bool := (ltI 126 v2)
      .br v6 (
        .br (inRange t10 r0.length) (
        let v7 : (List Int) := (r0.set t10.toNat 32)
        let v8 : Int := (IntKind.i64.wrap (t10 + 1))
        .ret (.inl (v8, v7))) .fail) (
        let v9 : Int := (IntKind.i64.wrap (t10 + 1))
        .ret (.inl (v9, r0))))) .fail) (
    .ret (.inr r0))
noncomputable def place_plain_l3 (N : Nat) (t9 : Int) (v : (Int × (List Int))) : Option (List Int) := loopN (fun v => place_plain_l3_T N t9 v.1 v.2) N v
noncomputable def place_plain_T (N : Nat) (t0 : ByteArray) : Tree ByteArray :=
  .br (ltI (t0.size : Int) 140737488355328) (
  let v1 : List Int := (sBytes t0)
  let v2 : Int := (v1.length : Int)
  .call (place_plain_l3 N v2 (0, v1)) fun y3 => (
  let v4 : ByteArray := (bytesS y3)
  .ret v4)) .fail
noncomputable def place_plain (N : Nat) (t0 : ByteArray) : Option ByteArray := (place_plain_T N t0).run some
/-! ### strings.Repeat -/
/-! ### bauta/place.excerpt -/
noncomputable def place_excerpt_j6_T (N : Nat) (t0 : ByteArray) (t1 : Int) (t5 : Int) (t6 : Int) : Tree ByteArray :=
  .br (leI 0 t5 && (leI t5 t6 && leI t6 (t0.size : Int))) (
  let v1 : ByteArray := (t0.extract t5.toNat t6.toNat)
  .call (place_plain N v1) fun y2 => (
  .br (leI ((y2.size : Int) + (⟨#[10]⟩ : ByteArray).size) 9223372036854775807) (
  let v3 : ByteArray := (y2 ++ (⟨#[10]⟩ : ByteArray))
  let v4 : Int := (IntKind.i64.wrap (t1 - t5))
  .call (strings_Repeat N (⟨#[32]⟩ : ByteArray) v4) fun y5 => (
  .br (leI ((v3.size : Int) + y5.size) 9223372036854775807) (
  let v6 : ByteArray := (v3 ++ y5)
  .br (leI ((v6.size : Int) + (⟨#[94]⟩ : ByteArray).size) 9223372036854775807) (
  let v7 : ByteArray := (v6 ++ (⟨#[94]⟩ : ByteArray))
  .ret v7) .fail) .fail)) .fail)) .fail
noncomputable def place_excerpt_j6 (N : Nat) (t0 : ByteArray) (t1 : Int) (t5 : Int) (t6 : Int) : Option ByteArray := (place_excerpt_j6_T N t0 t1 t5 t6).run some
noncomputable def place_excerpt_T (N : Nat) (t0 : ByteArray) (t1 : Int) : Tree ByteArray :=
  .call (place_inside N t0 t1) fun y1 => (
  .call (place_start N t0 y1) fun y2 => (
  .call (place_end N t0 y1) fun y3 => (
  let v4 : Int := (IntKind.i64.wrap (y3 - y2))
  let v5 : Bool := (ltI 72 v4)
  .br v5 (
    let v6 : Int := (IntKind.i64.wrap (y1 - 36))
    let v7 : Int := (if v6 > y2 then v6 else y2)
    let v8 : Int := (IntKind.i64.wrap (v7 + 72))
    let v9 : Int := (if v8 < y3 then v8 else y3)
    .call (place_excerpt_j6 N t0 y1 v7 v9) fun y10 => (
    .ret y10)) (
    .call (place_excerpt_j6 N t0 y1 y2 y3) fun y11 => (
    .ret y11)))))
noncomputable def place_excerpt (N : Nat) (t0 : ByteArray) (t1 : Int) : Option ByteArray := (place_excerpt_T N t0 t1).run some
/-! ### bauta/place.Tell -/
noncomputable def place_Tell_T (N : Nat) (t0 : ByteArray) (t1 : Int) (t2 : Int) : Tree ByteArray :=
  .call (place_of N t0 t1) fun y1 => (
  .call (strconv_Itoa N y1.1) fun y2 => (
  .br (leI (((⟨#[108, 105, 110, 101, 32]⟩ : ByteArray).size : Int) + y2.size) 9223372036854775807) (
  let v3 : ByteArray := ((⟨#[108, 105, 110, 101, 32]⟩ : ByteArray) ++ y2)
  .br (leI ((v3.size : Int) + (⟨#[44, 32, 99, 111, 108, 117, 109, 110, 32]⟩ : ByteArray).size) 9223372036854775807) (
  let v4 : ByteArray := (v3 ++ (⟨#[44, 32, 99, 111, 108, 117, 109, 110, 32]⟩ : ByteArray))
  .call (strconv_Itoa N y1.2) fun y5 => (
  .br (leI ((v4.size : Int) + y5.size) 9223372036854775807) (
  let v6 : ByteArray := (v4 ++ y5)
  .br (leI ((v6.size : Int) + (⟨#[58, 32]⟩ : ByteArray).size) 9223372036854775807) (
  let v7 : ByteArray := (v6 ++ (⟨#[58, 32]⟩ : ByteArray))
  .call (place_word N t2) fun y8 => (
  .br (leI ((v7.size : Int) + y8.size) 9223372036854775807) (
  let v9 : ByteArray := (v7 ++ y8)
  .br (leI ((v9.size : Int) + (⟨#[10]⟩ : ByteArray).size) 9223372036854775807) (
  let v10 : ByteArray := (v9 ++ (⟨#[10]⟩ : ByteArray))
  .call (place_excerpt N t0 t1) fun y11 => (
  .br (leI ((v10.size : Int) + y11.size) 9223372036854775807) (
  let v12 : ByteArray := (v10 ++ y11)
  .ret v12) .fail)) .fail) .fail)) .fail) .fail)) .fail) .fail))
noncomputable def place_Tell (N : Nat) (t0 : ByteArray) (t1 : Int) (t2 : Int) : Option ByteArray := (place_Tell_T N t0 t1 t2).run some
/-! ### bauta/bautalaw29.lives -/
noncomputable def bautalaw29_lives_T (N : Nat) : Tree Bool :=
  .call (place_Tell N (⟨#[120, 32, 61, 32, 59]⟩ : ByteArray) 4 100) fun y1 => (
  let v2 : Bool := (y1.toList == (⟨#[108, 105, 110, 101, 32, 49, 44, 32, 99, 111, 108, 117, 109, 110, 32, 53, 58, 32, 115, 121, 110, 116, 97, 120, 10, 120, 32, 61, 32, 59, 10, 32, 32, 32, 32, 94]⟩ : ByteArray).toList)
  .ret v2)
noncomputable def bautalaw29_lives (N : Nat) : Option Bool := (bautalaw29_lives_T N).run some
/-! ### bauta/bautalaw29.PlaceOf -/
noncomputable def bautalaw29_PlaceOf_j6_T (N : Nat) (t0 : ByteArray) (t1 : Int) (t5 : Int) (t6 : Int) : Tree Bool :=
  .call (place_At N t0 t5 t6) fun y1 => (
  let v2 : Bool := (ltI t1 0)
  .br v2 (
    .br y1.2 (
      let v3 : Bool := (y1.1 == 0)
      .br v3 (
        .call (bautalaw29_lives N) fun y4 => (
        .ret y4)) (
        .ret false)) (
      .ret false)) (
    .br y1.2 (
      let v5 : Bool := (y1.1 == t1)
      .br v5 (
        .call (bautalaw29_lives N) fun y6 => (
        .ret y6)) (
        let v7 : Int := (t0.size : Int)
        let v8 : Bool := (ltI v7 t1)
        .br v8 (
          let v9 : Int := (t0.size : Int)
          let v10 : Bool := (y1.1 == v9)
          .br v10 (
            .call (bautalaw29_lives N) fun y11 => (
            .ret y11)) (
            .ret false)) (
          .ret false))) (
      .ret false)))
noncomputable def bautalaw29_PlaceOf_j6 (N : Nat) (t0 : ByteArray) (t1 : Int) (t5 : Int) (t6 : Int) : Option Bool := (bautalaw29_PlaceOf_j6_T N t0 t1 t5 t6).run some
noncomputable def bautalaw29_PlaceOf_T (N : Nat) (t0 : ByteArray) (t1 : Int) : Tree Bool :=
  .call (bautalaw29_short N t0) fun y1 => (
  .call (place_Of N y1 t1) fun y2 => (
  .call (bautaref29_Of N y1 t1) fun y3 => (
  let v4 : Bool := (y2.1 != y3.1)
  .br v4 (
    .ret false) (
    let v5 : Bool := (y2.2 != y3.2)
    .br v5 (
      .ret false) (
      .call (bautalaw29_PlaceOf_j6 N y1 t1 y2.1 y2.2) fun y6 => (
      .ret y6))))))
noncomputable def bautalaw29_PlaceOf (N : Nat) (t0 : ByteArray) (t1 : Int) : Option Bool := (bautalaw29_PlaceOf_T N t0 t1).run some
/-! ### bauta/bautaref29.Lines -/
noncomputable def bautaref29_Lines_l3_T (N : Nat) (t0 : ByteArray) (t4 : Int) (t5 : Int) (r0 : (List ByteArray)) : Tree ((Int × Int × (List ByteArray)) ⊕ (Int × (List ByteArray))) :=
  let v1 : Int := (t0.size : Int)
  let v2 : Bool := (ltI t5 v1)
  .br v2 (
    .br (inRange t5 t0.size) (
    let v3 : Int := (bAt t0 t5.toNat)
    let v4 : Bool := (v3 == 10)
    .br v4 (
      .br (leI 0 t4 && (leI t4 t5 && leI t5 (t0.size : Int))) (
      let v5 : ByteArray := (t0.extract t4.toNat t5.toNat)
      .br (ltI (((r0.length : Int) + 1) * 16) 140737488355328) (
      let v6 : (List ByteArray) := (r0 ++ [v5])
      let v7 : Int := (IntKind.i64.wrap (t5 + 1))
      let v8 : Int := (IntKind.i64.wrap (t5 + 1))
      .ret (.inl (v7, v8, v6))) .fail) .fail) (
      let v9 : Int := (IntKind.i64.wrap (t5 + 1))
      .ret (.inl (t4, v9, r0)))) .fail) (
    .ret (.inr (t4, r0)))
noncomputable def bautaref29_Lines_l3 (N : Nat) (t0 : ByteArray) (v : (Int × Int × (List ByteArray))) : Option (Int × (List ByteArray)) := loopN (fun v => bautaref29_Lines_l3_T N t0 v.1 v.2.1 v.2.2) N v
noncomputable def bautaref29_Lines_T (N : Nat) (t0 : ByteArray) : Tree (List ByteArray) :=
  .call (bautaref29_Lines_l3 N t0 (0, 0, [])) fun y1 => (
  .br (leI 0 y1.1 && leI y1.1 (t0.size : Int)) (
  let v2 : ByteArray := (t0.extract y1.1.toNat t0.size)
  .br (ltI (((y1.2.length : Int) + 1) * 16) 140737488355328) (
  let v3 : (List ByteArray) := (y1.2 ++ [v2])
  .ret v3) .fail) .fail)
noncomputable def bautaref29_Lines (N : Nat) (t0 : ByteArray) : Option (List ByteArray) := (bautaref29_Lines_T N t0).run some
/-! ### bauta/bautaref29.At -/
noncomputable def bautaref29_At_l6_T (N : Nat) (t1 : Int) (r0 : (List ByteArray)) (t9 : Int) (t10 : Int) : Tree ((Int × Int) ⊕ Int) :=
  let v1 : Int := (IntKind.i64.wrap (t1 - 1))
  let v2 : Bool := (ltI t10 v1)
  .br v2 (
    .br (inRange t10 r0.length) (
    let v3 : ByteArray := (r0.getD t10.toNat ByteArray.empty)
    let v4 : Int := (v3.size : Int)
    let v5 : Int := (IntKind.i64.wrap (t9 + v4))
    let v6 : Int := (IntKind.i64.wrap (v5 + 1))
    let v7 : Int := (IntKind.i64.wrap (t10 + 1))
    .ret (.inl (v6, v7))) .fail) (
    .ret (.inr t9))
noncomputable def bautaref29_At_l6 (N : Nat) (t1 : Int) (r0 : (List ByteArray)) (v : (Int × Int)) : Option Int := loopN (fun v => bautaref29_At_l6_T N t1 r0 v.1 v.2) N v
noncomputable def bautaref29_At_j4_T (N : Nat) (t1 : Int) (t2 : Int) (r0 : (List ByteArray)) : Tree Int :=
  .call (bautaref29_At_l6 N t1 r0 (0, 0)) fun y1 => (
  let v2 : Int := (IntKind.i64.wrap (y1 + t2))
  let v3 : Int := (IntKind.i64.wrap (v2 - 1))
  .ret v3)
noncomputable def bautaref29_At_j4 (N : Nat) (t1 : Int) (t2 : Int) (r0 : (List ByteArray)) : Option Int := (bautaref29_At_j4_T N t1 t2 r0).run some
noncomputable def bautaref29_At_T (N : Nat) (t0 : ByteArray) (t1 : Int) (t2 : Int) : Tree (Int × Bool) :=
  .call (bautaref29_Lines N t0) fun y1 => (
  let v2 : Bool := (ltI t1 1)
  .br v2 (
    .ret (0, false)) (
    let v3 : Int := (y1.length : Int)
    let v4 : Bool := (ltI v3 t1)
    .br v4 (
      .ret (0, false)) (
      let v5 : Bool := (ltI t2 1)
      .br v5 (
        .ret (0, false)) (
        let v6 : Int := (IntKind.i64.wrap (t1 - 1))
        .br (inRange v6 y1.length) (
        let v7 : ByteArray := (y1.getD v6.toNat ByteArray.empty)
        let v8 : Int := (v7.size : Int)
        let v9 : Int := (IntKind.i64.wrap (v8 + 1))
        let v10 : Bool := (ltI v9 t2)
        .br v10 (
          .ret (0, false)) (
          .call (bautaref29_At_j4 N t1 t2 y1) fun y11 => (
          .ret (y11, true)))) .fail))))
noncomputable def bautaref29_At (N : Nat) (t0 : ByteArray) (t1 : Int) (t2 : Int) : Option (Int × Bool) := (bautaref29_At_T N t0 t1 t2).run some
/-! ### bauta/place.Line -/
noncomputable def place_Line_T (N : Nat) (t0 : ByteArray) (t1 : Int) : Tree (ByteArray × Bool) :=
  .call (place_begins N t0 t1) fun y1 => (
  let v2 : Bool := (!y1.2)
  .br v2 (
    .ret (ByteArray.empty, false)) (
    .call (place_end N t0 y1.1) fun y3 => (
    .br (leI 0 y1.1 && (leI y1.1 y3 && leI y3 (t0.size : Int))) (
    let v4 : ByteArray := (t0.extract y1.1.toNat y3.toNat)
    .ret (v4, true)) .fail)))
noncomputable def place_Line (N : Nat) (t0 : ByteArray) (t1 : Int) : Option (ByteArray × Bool) := (place_Line_T N t0 t1).run some
/-! ### bauta/bautalaw29.PlaceAt -/
noncomputable def bautalaw29_PlaceAt_j7_T (N : Nat) (t7 : Int) (t8 : Bool) (t10 : Bool) (t12 : ByteArray) (t13 : Bool) (t45 : Bool) : Tree (Bool ⊕ Unit) :=
  .br t45 (
    let v1 : Bool := (!t8)
    .br v1 (
      let v2 : Bool := (t7 == 0)
      .br v2 (
        let v3 : Bool := (!t10)
        .br v3 (
          let v4 : Bool := (!t13)
          .br v4 (
            let v5 : Bool := (t12.toList == ByteArray.empty.toList)
            .br v5 (
              .call (bautalaw29_lives N) fun y6 => (
              .ret (.inl y6))) (
              .ret (.inl false))) (
            .ret (.inl false))) (
          .ret (.inl false))) (
        .ret (.inl false))) (
      .ret (.inl false))) (
    .ret (.inr ()))
noncomputable def bautalaw29_PlaceAt_j7 (N : Nat) (t7 : Int) (t8 : Bool) (t10 : Bool) (t12 : ByteArray) (t13 : Bool) (t45 : Bool) : Option (Bool ⊕ Unit) := (bautalaw29_PlaceAt_j7_T N t7 t8 t10 t12 t13 t45).run some
noncomputable def bautalaw29_PlaceAt_j8_T (N : Nat) (t1 : Int) (t7 : Int) (t8 : Bool) (t9 : Int) (t10 : Bool) (t12 : ByteArray) (t13 : Bool) (r0 : (List ByteArray)) : Tree Bool :=
  let v1 : Bool := (t7 == t9)
  .br v1 (
    let v2 : Bool := (t8 == t10)
    .br v2 (
      .br t13 (
        let v3 : Int := (IntKind.i64.wrap (t1 - 1))
        .br (inRange v3 r0.length) (
        let v4 : ByteArray := (r0.getD v3.toNat ByteArray.empty)
        let v5 : Bool := (t12.toList == v4.toList)
        .br v5 (
          .call (bautalaw29_lives N) fun y6 => (
          .ret y6)) (
          .ret false)) .fail) (
        .ret false)) (
      .ret false)) (
    .ret false)
noncomputable def bautalaw29_PlaceAt_j8 (N : Nat) (t1 : Int) (t7 : Int) (t8 : Bool) (t9 : Int) (t10 : Bool) (t12 : ByteArray) (t13 : Bool) (r0 : (List ByteArray)) : Option Bool := (bautalaw29_PlaceAt_j8_T N t1 t7 t8 t9 t10 t12 t13 r0).run some
noncomputable def bautalaw29_PlaceAt_T (N : Nat) (t0 : ByteArray) (t1 : Int) (t2 : Int) : Tree Bool :=
  .call (bautalaw29_short N t0) fun y1 => (
  .call (place_At N y1 t1 t2) fun y2 => (
  .call (bautaref29_At N y1 t1 t2) fun y3 => (
  .call (bautaref29_Lines N y1) fun y4 => (
  .call (place_Line N y1 t1) fun y5 => (
  let v6 : Bool := (ltI t1 1)
  .br v6 (
    .call (bautalaw29_PlaceAt_j7 N y2.1 y2.2 y3.2 y5.1 y5.2 true) fun y7 => (
    .alt y7 (fun y8 => (
      .ret y8)) (fun y9 => (
      .call (bautalaw29_PlaceAt_j8 N t1 y2.1 y2.2 y3.1 y3.2 y5.1 y5.2 y4) fun y10 => (
      .ret y10))))) (
    let v11 : Int := (y4.length : Int)
    let v12 : Bool := (ltI v11 t1)
    .call (bautalaw29_PlaceAt_j7 N y2.1 y2.2 y3.2 y5.1 y5.2 v12) fun y13 => (
    .alt y13 (fun y14 => (
      .ret y14)) (fun y15 => (
      .call (bautalaw29_PlaceAt_j8 N t1 y2.1 y2.2 y3.1 y3.2 y5.1 y5.2 y4) fun y16 => (
      .ret y16))))))))))
noncomputable def bautalaw29_PlaceAt (N : Nat) (t0 : ByteArray) (t1 : Int) (t2 : Int) : Option Bool := (bautalaw29_PlaceAt_T N t0 t1 t2).run some
/-! ### bauta/place.Excerpt -/
noncomputable def place_Excerpt_T (N : Nat) (t0 : ByteArray) (t1 : Int) : Tree ByteArray :=
  .call (place_excerpt N t0 t1) fun y1 => (
  .ret y1)
noncomputable def place_Excerpt (N : Nat) (t0 : ByteArray) (t1 : Int) : Option ByteArray := (place_Excerpt_T N t0 t1).run some
/-! ### bauta/bautaref29.Excerpt -/
noncomputable def bautaref29_Excerpt_l11_T (N : Nat) (t11 : Int) (r0 : (List Int)) : Tree ((Int × (List Int)) ⊕ (List Int)) :=
  let v1 : Int := (r0.length : Int)
  let v2 : Bool := (ltI t11 v1)
  .br v2 (
    .br (inRange t11 r0.length) (
    let v3 : Int := (r0.getD t11.toNat 0)
    let v4 : Bool := (ltI v3 32)
    .br v4 (
      .br (inRange t11 r0.length) (
      let v5 : (List Int) := (r0.set t11.toNat 32)
      let v6 : Int := (IntKind.i64.wrap (t11 + 1))
      .ret (.inl (v6, v5))) .fail) (
      .br (inRange t11 r0.length) (
      let v7 : Int := (r0.getD t11.toNat 0)
      let v8 : Bool := (ltI 126 v7)
      .br v8 (
        .br (inRange t11 r0.length) (
        let v9 : (List Int) := (r0.set t11.toNat 32)
        let v10 : Int := (IntKind.i64.wrap (t11 + 1))
        .ret (.inl (v10, v9))) .fail) (
        let v11 : Int := (IntKind.i64.wrap (t11 + 1))
        .ret (.inl (v11, r0)))) .fail)) .fail) (
    .ret (.inr r0))
noncomputable def bautaref29_Excerpt_l11 (N : Nat) (v : (Int × (List Int))) : Option (List Int) := loopN (fun v => bautaref29_Excerpt_l11_T N v.1 v.2) N v
noncomputable def bautaref29_Excerpt_l17_T (N : Nat) (t6 : Int) (t12 : Int) (r0 : (List Int)) : Tree ((Int × (List Int)) ⊕ (List Int)) :=
  let v1 : Int := (IntKind.i64.wrap (t6 - 1))
  let v2 : Bool := (ltI t12 v1)
  .br v2 (
    .br (ltI (((r0.length : Int) + 1) * 1) 140737488355328) (
    let v3 : (List Int) := (r0 ++ [32])
    let v4 : Int := (IntKind.i64.wrap (t12 + 1))
    .ret (.inl (v4, v3))) .fail) (
    .ret (.inr r0))
noncomputable def bautaref29_Excerpt_l17 (N : Nat) (t6 : Int) (v : (Int × (List Int))) : Option (List Int) := loopN (fun v => bautaref29_Excerpt_l17_T N t6 v.1 v.2) N v
noncomputable def bautaref29_Excerpt_j9_T (N : Nat) (t6 : Int) (t7 : ByteArray) (t8 : Int) (t9 : Int) : Tree ByteArray :=
  .br (leI 0 t8 && (leI t8 t9 && leI t9 (t7.size : Int))) (
  let v1 : ByteArray := (t7.extract t8.toNat t9.toNat)
  .br (ltI (v1.size : Int) 140737488355328) (
  let v2 : List Int := (sBytes v1)
  .call (bautaref29_Excerpt_l11 N (0, v2)) fun y3 => (
  .br (ltI (((y3.length : Int) + 1) * 1) 140737488355328) (
  let v4 : (List Int) := (y3 ++ [10])
  .call (bautaref29_Excerpt_l17 N t6 (t8, v4)) fun y5 => (
  .br (ltI (((y5.length : Int) + 1) * 1) 140737488355328) (
  let v6 : (List Int) := (y5 ++ [94])
  let v7 : ByteArray := (bytesS v6)
  .ret v7) .fail)) .fail)) .fail) .fail
noncomputable def bautaref29_Excerpt_j9 (N : Nat) (t6 : Int) (t7 : ByteArray) (t8 : Int) (t9 : Int) : Option ByteArray := (bautaref29_Excerpt_j9_T N t6 t7 t8 t9).run some
noncomputable def bautaref29_Excerpt_T (N : Nat) (t0 : ByteArray) (t1 : Int) : Tree ByteArray :=
  .call (bautaref29_Of N t0 t1) fun y1 => (
  .call (bautaref29_Lines N t0) fun y2 => (
  let v3 : Int := (IntKind.i64.wrap (y1.1 - 1))
  .br (inRange v3 y2.length) (
  let v4 : ByteArray := (y2.getD v3.toNat ByteArray.empty)
  let v5 : Int := (v4.size : Int)
  let v6 : Int := (v4.size : Int)
  let v7 : Bool := (ltI 72 v6)
  .br v7 (
    let v8 : Int := (IntKind.i64.wrap (y1.2 - 1))
    let v9 : Bool := (ltI 36 v8)
    .br v9 (
      let v10 : Int := (IntKind.i64.wrap (y1.2 - 1))
      let v11 : Int := (IntKind.i64.wrap (v10 - 36))
      let v12 : Int := (IntKind.i64.wrap (v11 + 72))
      let v13 : Bool := (ltI v12 v5)
      .br v13 (
        let v14 : Int := (IntKind.i64.wrap (v11 + 72))
        .call (bautaref29_Excerpt_j9 N y1.2 v4 v11 v14) fun y15 => (
        .ret y15)) (
        .call (bautaref29_Excerpt_j9 N y1.2 v4 v11 v5) fun y16 => (
        .ret y16))) (
      let v17 : Bool := (ltI 72 v5)
      .br v17 (
        .call (bautaref29_Excerpt_j9 N y1.2 v4 0 72) fun y18 => (
        .ret y18)) (
        .call (bautaref29_Excerpt_j9 N y1.2 v4 0 v5) fun y19 => (
        .ret y19)))) (
    .call (bautaref29_Excerpt_j9 N y1.2 v4 0 v5) fun y20 => (
    .ret y20))) .fail))
noncomputable def bautaref29_Excerpt (N : Nat) (t0 : ByteArray) (t1 : Int) : Option ByteArray := (bautaref29_Excerpt_T N t0 t1).run some
/-! ### bauta/bautalaw29.PlaceExcerpts -/
noncomputable def bautalaw29_PlaceExcerpts_T (N : Nat) (t0 : ByteArray) (t1 : Int) : Tree Bool :=
  .call (bautalaw29_short N t0) fun y1 => (
  .call (place_Excerpt N y1 t1) fun y2 => (
  .call (bautaref29_Excerpt N y1 t1) fun y3 => (
  let v4 : Bool := (y2.toList == y3.toList)
  .br v4 (
    .call (bautalaw29_lives N) fun y5 => (
    .ret y5)) (
    .ret false))))
noncomputable def bautalaw29_PlaceExcerpts (N : Nat) (t0 : ByteArray) (t1 : Int) : Option Bool := (bautalaw29_PlaceExcerpts_T N t0 t1).run some
/-! ### bauta/bautalaw29.PlaceWide -/
noncomputable def bautalaw29_PlaceWide_j11_T (N : Nat) (r0 : (List ByteArray)) : Tree Bool :=
  .br (inRange 1 r0.length) (
  let v1 : ByteArray := (r0.getD 1 ByteArray.empty)
  .br (inRange 1 r0.length) (
  let v2 : ByteArray := (r0.getD 1 ByteArray.empty)
  let v3 : Int := (v2.size : Int)
  let v4 : Int := (IntKind.i64.wrap (v3 - 1))
  .br (inRange v4 v1.size) (
  let v5 : Int := (bAt v1 v4.toNat)
  let v6 : Bool := (v5 == 94)
  .br v6 (
    .call (bautalaw29_lives N) fun y7 => (
    .ret y7)) (
    .ret false)) .fail) .fail) .fail
noncomputable def bautalaw29_PlaceWide_j11 (N : Nat) (r0 : (List ByteArray)) : Option Bool := (bautalaw29_PlaceWide_j11_T N r0).run some
noncomputable def bautalaw29_PlaceWide_j9_T (N : Nat) (t0 : ByteArray) (t7 : Int) (r0 : (List ByteArray)) : Tree Bool :=
  let v1 : Int := (t0.size : Int)
  let v2 : Bool := (ltI t7 v1)
  .br v2 (
    .br (inRange t7 t0.size) (
    let v3 : Int := (bAt t0 t7.toNat)
    let v4 : Bool := (ltI 31 v3)
    .br v4 (
      .br (inRange t7 t0.size) (
      let v5 : Int := (bAt t0 t7.toNat)
      let v6 : Bool := (ltI v5 127)
      .br v6 (
        .br (inRange 1 r0.length) (
        let v7 : ByteArray := (r0.getD 1 ByteArray.empty)
        let v8 : Int := (v7.size : Int)
        .br (inRange 0 r0.length) (
        let v9 : ByteArray := (r0.getD 0 ByteArray.empty)
        let v10 : Int := (v9.size : Int)
        let v11 : Bool := (ltI v10 v8)
        .br v11 (
          .ret false) (
          .br (inRange 0 r0.length) (
          let v12 : ByteArray := (r0.getD 0 ByteArray.empty)
          .br (inRange 1 r0.length) (
          let v13 : ByteArray := (r0.getD 1 ByteArray.empty)
          let v14 : Int := (v13.size : Int)
          let v15 : Int := (IntKind.i64.wrap (v14 - 1))
          .br (inRange v15 v12.size) (
          let v16 : Int := (bAt v12 v15.toNat)
          .br (inRange t7 t0.size) (
          let v17 : Int := (bAt t0 t7.toNat)
          let v18 : Bool := (v16 != v17)
          .br v18 (
            .ret false) (
            .call (bautalaw29_PlaceWide_j11 N r0) fun y19 => (
            .ret y19))) .fail) .fail) .fail) .fail)) .fail) .fail) (
        .call (bautalaw29_PlaceWide_j11 N r0) fun y20 => (
        .ret y20))) .fail) (
      .call (bautalaw29_PlaceWide_j11 N r0) fun y21 => (
      .ret y21))) .fail) (
    .call (bautalaw29_PlaceWide_j11 N r0) fun y22 => (
    .ret y22))
noncomputable def bautalaw29_PlaceWide_j9 (N : Nat) (t0 : ByteArray) (t7 : Int) (r0 : (List ByteArray)) : Option Bool := (bautalaw29_PlaceWide_j9_T N t0 t7 r0).run some
noncomputable def bautalaw29_PlaceWide_j6_T (N : Nat) (t0 : ByteArray) (t1 : Int) (r0 : (List ByteArray)) : Tree Bool :=
  let v1 : Bool := (ltI t1 0)
  .br v1 (
    .call (bautalaw29_PlaceWide_j9 N t0 0 r0) fun y2 => (
    .ret y2)) (
    .call (bautalaw29_PlaceWide_j9 N t0 t1 r0) fun y3 => (
    .ret y3))
noncomputable def bautalaw29_PlaceWide_j6 (N : Nat) (t0 : ByteArray) (t1 : Int) (r0 : (List ByteArray)) : Option Bool := (bautalaw29_PlaceWide_j6_T N t0 t1 r0).run some
noncomputable def bautalaw29_PlaceWide_T (N : Nat) (t0 : ByteArray) (t1 : Int) : Tree Bool :=
  .call (bautalaw29_short N t0) fun y1 => (
  .call (place_Excerpt N y1 t1) fun y2 => (
  .call (bautaref29_Lines N y2) fun y3 => (
  let v4 : Int := (y3.length : Int)
  let v5 : Bool := (v4 != 2)
  .br v5 (
    .ret false) (
    .br (inRange 0 y3.length) (
    let v6 : ByteArray := (y3.getD 0 ByteArray.empty)
    let v7 : Int := (v6.size : Int)
    let v8 : Bool := (ltI 72 v7)
    .br v8 (
      .ret false) (
      .br (inRange 1 y3.length) (
      let v9 : ByteArray := (y3.getD 1 ByteArray.empty)
      let v10 : Int := (v9.size : Int)
      let v11 : Bool := (v10 == 0)
      .br v11 (
        .ret false) (
        .br (inRange 1 y3.length) (
        let v12 : ByteArray := (y3.getD 1 ByteArray.empty)
        let v13 : Int := (v12.size : Int)
        .br (inRange 0 y3.length) (
        let v14 : ByteArray := (y3.getD 0 ByteArray.empty)
        let v15 : Int := (v14.size : Int)
        let v16 : Int := (IntKind.i64.wrap (v15 + 1))
        let v17 : Bool := (ltI v16 v13)
        .br v17 (
          .ret false) (
          .call (bautalaw29_PlaceWide_j6 N y1 t1 y3) fun y18 => (
          .ret y18))) .fail) .fail)) .fail)) .fail))))
noncomputable def bautalaw29_PlaceWide (N : Nat) (t0 : ByteArray) (t1 : Int) : Option Bool := (bautalaw29_PlaceWide_T N t0 t1).run some
/-! ### bauta/place.Word -/
noncomputable def place_Word_T (N : Nat) (t0 : Int) : Tree ByteArray :=
  .call (place_word N t0) fun y1 => (
  .ret y1)
noncomputable def place_Word (N : Nat) (t0 : Int) : Option ByteArray := (place_Word_T N t0).run some
/-! ### bauta/bautaref04.Num -/
noncomputable def bautaref04_Num_T (N : Nat) (bautaref04_Num_r : Int → Option ByteArray) (t0 : Int) : Tree ByteArray :=
  let v1 : Bool := (ltI t0 0)
  .br v1 (
    let v2 : Int := (IntKind.i64.wrap (0 - t0))
    .call (bautaref04_Num_r v2) fun y3 => (
    .br (leI (((⟨#[45]⟩ : ByteArray).size : Int) + y3.size) 9223372036854775807) (
    let v4 : ByteArray := ((⟨#[45]⟩ : ByteArray) ++ y3)
    .ret v4) .fail)) (
    let v5 : Bool := (ltI t0 10)
    .br v5 (
      let v6 : Int := (IntKind.i64.wrap (t0 + 1))
      .br (leI 0 t0 && (leI t0 v6 && leI v6 10)) (
      let v7 : ByteArray := ((⟨#[48, 49, 50, 51, 52, 53, 54, 55, 56, 57]⟩ : ByteArray).extract t0.toNat v6.toNat)
      .ret v7) .fail) (
      let v8 : Int := (IntKind.i64.wrap (t0.tdiv 10))
      .call (bautaref04_Num_r v8) fun y9 => (
      let v10 : Int := (t0.tmod 10)
      .call (bautaref04_Num_r v10) fun y11 => (
      .br (leI ((y9.size : Int) + y11.size) 9223372036854775807) (
      let v12 : ByteArray := (y9 ++ y11)
      .ret v12) .fail))))
noncomputable def bautaref04_Num_R (N : Nat) : Nat → Int → Option ByteArray
  | 0 => fun _ => none
  | k + 1 => fun t0 => (bautaref04_Num_T N (bautaref04_Num_R N k) t0).run some
noncomputable def bautaref04_Num (N : Nat) : Int → Option ByteArray := bautaref04_Num_R N N
/-! ### bauta/bautaref29.Word -/
noncomputable def bautaref29_Word_T (N : Nat) (t0 : Int) : Tree ByteArray :=
  let v1 : Bool := (t0 == 0)
  .br v1 (
    .ret (⟨#[102, 105, 110, 101]⟩ : ByteArray)) (
    let v2 : Bool := (t0 == 100)
    .br v2 (
      .ret (⟨#[115, 121, 110, 116, 97, 120]⟩ : ByteArray)) (
      let v3 : Bool := (t0 == 120)
      .br v3 (
        .ret (⟨#[116, 121, 112, 101]⟩ : ByteArray)) (
        let v4 : Bool := (t0 == 130)
        .br v4 (
          .ret (⟨#[115, 101, 99, 114, 101, 116, 32, 102, 108, 111, 119]⟩ : ByteArray)) (
          let v5 : Bool := (t0 == 140)
          .br v5 (
            .ret (⟨#[111, 114, 100, 101, 114]⟩ : ByteArray)) (
            let v6 : Bool := (t0 == 150)
            .br v6 (
              .ret (⟨#[114, 101, 115, 111, 117, 114, 99, 101]⟩ : ByteArray)) (
              let v7 : Bool := (t0 == (-9223372036854775808))
              .br v7 (
                .ret (⟨#[101, 114, 114, 111, 114, 32, 45, 57, 50, 50, 51, 51, 55, 50, 48, 51, 54, 56, 53, 52, 55, 55, 53, 56, 48, 56]⟩ : ByteArray)) (
                .call (bautaref04_Num N t0) fun y8 => (
                .br (leI (((⟨#[101, 114, 114, 111, 114, 32]⟩ : ByteArray).size : Int) + y8.size) 9223372036854775807) (
                let v9 : ByteArray := ((⟨#[101, 114, 114, 111, 114, 32]⟩ : ByteArray) ++ y8)
                .ret v9) .fail))))))))
noncomputable def bautaref29_Word (N : Nat) (t0 : Int) : Option ByteArray := (bautaref29_Word_T N t0).run some
/-! ### bauta/bautaref29.Tell -/
noncomputable def bautaref29_Tell_T (N : Nat) (t0 : ByteArray) (t1 : Int) (t2 : Int) : Tree ByteArray :=
  .call (bautaref29_Of N t0 t1) fun y1 => (
  .call (bautaref04_Num N y1.1) fun y2 => (
  .br (leI (((⟨#[108, 105, 110, 101, 32]⟩ : ByteArray).size : Int) + y2.size) 9223372036854775807) (
  let v3 : ByteArray := ((⟨#[108, 105, 110, 101, 32]⟩ : ByteArray) ++ y2)
  .br (leI ((v3.size : Int) + (⟨#[44, 32, 99, 111, 108, 117, 109, 110, 32]⟩ : ByteArray).size) 9223372036854775807) (
  let v4 : ByteArray := (v3 ++ (⟨#[44, 32, 99, 111, 108, 117, 109, 110, 32]⟩ : ByteArray))
  .call (bautaref04_Num N y1.2) fun y5 => (
  .br (leI ((v4.size : Int) + y5.size) 9223372036854775807) (
  let v6 : ByteArray := (v4 ++ y5)
  .br (leI ((v6.size : Int) + (⟨#[58, 32]⟩ : ByteArray).size) 9223372036854775807) (
  let v7 : ByteArray := (v6 ++ (⟨#[58, 32]⟩ : ByteArray))
  .call (bautaref29_Word N t2) fun y8 => (
  .br (leI ((v7.size : Int) + y8.size) 9223372036854775807) (
  let v9 : ByteArray := (v7 ++ y8)
  .br (leI ((v9.size : Int) + (⟨#[10]⟩ : ByteArray).size) 9223372036854775807) (
  let v10 : ByteArray := (v9 ++ (⟨#[10]⟩ : ByteArray))
  .call (bautaref29_Excerpt N t0 t1) fun y11 => (
  .br (leI ((v10.size : Int) + y11.size) 9223372036854775807) (
  let v12 : ByteArray := (v10 ++ y11)
  .ret v12) .fail)) .fail) .fail)) .fail) .fail)) .fail) .fail))
noncomputable def bautaref29_Tell (N : Nat) (t0 : ByteArray) (t1 : Int) (t2 : Int) : Option ByteArray := (bautaref29_Tell_T N t0 t1 t2).run some
/-! ### bauta/bautalaw29.PlaceTells -/
noncomputable def bautalaw29_PlaceTells_T (N : Nat) (t0 : ByteArray) (t1 : Int) (t2 : Int) : Tree Bool :=
  .call (bautalaw29_short N t0) fun y1 => (
  .call (place_Word N t2) fun y2 => (
  .call (bautaref29_Word N t2) fun y3 => (
  let v4 : Bool := (y2.toList == y3.toList)
  .br v4 (
    .call (place_Tell N y1 t1 t2) fun y5 => (
    .call (bautaref29_Tell N y1 t1 t2) fun y6 => (
    let v7 : Bool := (y5.toList == y6.toList)
    .br v7 (
      .call (bautalaw29_lives N) fun y8 => (
      .ret y8)) (
      .ret false)))) (
    .ret false))))
noncomputable def bautalaw29_PlaceTells (N : Nat) (t0 : ByteArray) (t1 : Int) (t2 : Int) : Option Bool := (bautalaw29_PlaceTells_T N t0 t1 t2).run some
end Go.Proofs.YtklnpdnfjponpaaDoorV
