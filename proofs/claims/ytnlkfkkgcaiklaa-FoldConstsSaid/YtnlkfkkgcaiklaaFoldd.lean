/- Fold: what the functions come to (printed by wip/ext.py). -/
import Derived.Test.YtnlkfkkgcaiklaaVx
namespace Go.Proofs.YtnlkfkkgcaiklaaV
open Go.RowKit
set_option linter.unusedVariables false
set_option maxRecDepth 100000
/-! ### bauta/bautalaw17.few -/
noncomputable def bautalaw17_few_T (N : Nat) (t0a : (List (Int × (Int × (Int × (Int × Bool)))))) (t0d : (List (ByteArray × Int))) : Tree Bool :=
  let v1 : Int := (t0a.length : Int)
  let v2 : Bool := (leI v1 400)
  .br v2 (
    let v3 : Int := (t0d.length : Int)
    let v4 : Bool := (leI v3 100)
    .ret v4) (
    .ret false)
noncomputable def bautalaw17_few (N : Nat) (t0a : (List (Int × (Int × (Int × (Int × Bool)))))) (t0d : (List (ByteArray × Int))) : Option Bool := (bautalaw17_few_T N t0a t0d).run some
/-! ### bauta/circ.most -/
noncomputable def circ_most_T (N : Nat) (t0b : Int) (t0c : Int) (t1 : Int) : Tree Int :=
  let v1 : Bool := (t1 == 0)
  .br v1 (
    .ret 4294967295) (
    let v2 : Bool := (t1 == 1)
    .br v2 (
      let v3 : Int := (IntKind.i64.wrap (t0b - 1))
      .ret v3) (
      let v4 : Bool := (t1 == 2)
      .br v4 (
        let v5 : Int := (IntKind.i64.wrap (t0c - 1))
        .ret v5) (
        let v6 : Bool := (t1 == 6)
        .br v6 (
          .br v6 (
            .ret 31) (
            .ret 0)) (
          let v7 : Bool := (t1 == 7)
          .br v7 (
            .br v7 (
              .ret 31) (
              .ret 0)) (
            let v8 : Bool := (t1 == 8)
            .br v8 (
              .ret 31) (
              .ret 0))))))
noncomputable def circ_most (N : Nat) (t0b : Int) (t0c : Int) (t1 : Int) : Option Int := (circ_most_T N t0b t0c t1).run some
/-! ### bauta/circ.takes -/
noncomputable def circ_takes_j7_T (N : Nat) (t3 : Int) (t4 : Bool) : Tree (Int ⊕ Unit) :=
  .br t4 (
    .ret (.inl 2)) (
    let v1 : Bool := (t3 == 5)
    .br v1 (
      .br v1 (
        .ret (.inl 1)) (
        .ret (.inr ()))) (
      let v2 : Bool := (t3 == 6)
      .br v2 (
        .br v2 (
          .ret (.inl 1)) (
          .ret (.inr ()))) (
        let v3 : Bool := (t3 == 7)
        .br v3 (
          .br v3 (
            .ret (.inl 1)) (
            .ret (.inr ()))) (
          let v4 : Bool := (t3 == 8)
          .br v4 (
            .ret (.inl 1)) (
            .ret (.inr ()))))))
noncomputable def circ_takes_j7 (N : Nat) (t3 : Int) (t4 : Bool) : Option (Int ⊕ Unit) := (circ_takes_j7_T N t3 t4).run some
noncomputable def circ_takes_T (N : Nat) (t0 : Int) : Tree Int :=
  let v1 : Bool := (t0 == 3)
  .br v1 (
    .call (circ_takes_j7 N t0 v1) fun y2 => (
    .alt y2 (fun y3 => (
      .ret y3)) (fun y4 => (
      .ret 0)))) (
    let v5 : Bool := (t0 == 4)
    .br v5 (
      .call (circ_takes_j7 N t0 v5) fun y6 => (
      .alt y6 (fun y7 => (
        .ret y7)) (fun y8 => (
        .ret 0)))) (
      let v9 : Bool := (t0 == 9)
      .br v9 (
        .call (circ_takes_j7 N t0 v9) fun y10 => (
        .alt y10 (fun y11 => (
          .ret y11)) (fun y12 => (
          .ret 0)))) (
        let v13 : Bool := (t0 == 10)
        .br v13 (
          .call (circ_takes_j7 N t0 v13) fun y14 => (
          .alt y14 (fun y15 => (
            .ret y15)) (fun y16 => (
            .ret 0)))) (
          let v17 : Bool := (t0 == 11)
          .call (circ_takes_j7 N t0 v17) fun y18 => (
          .alt y18 (fun y19 => (
            .ret y19)) (fun y20 => (
            .ret 0)))))))
noncomputable def circ_takes (N : Nat) (t0 : Int) : Option Int := (circ_takes_T N t0).run some
/-! ### bauta/circ.gate -/
noncomputable def circ_gate_j13_T (N : Nat) (t6 : Bool) (t8 : Int) (t61 : Bool) (r0a : (List (Int × (Int × (Int × (Int × Bool)))))) : Tree (Unit ⊕ Bool) :=
  .br t61 (
    .ret (.inl ())) (
    .br t6 (
      .ret (.inr true)) (
      .br (inRange t8 r0a.length) (
      let v1 : (Int × (Int × (Int × (Int × Bool)))) := (r0a.getD t8.toNat (0, (0, (0, (0, false)))))
      .ret (.inr v1.2.2.2.2)) .fail))
noncomputable def circ_gate_j13 (N : Nat) (t6 : Bool) (t8 : Int) (t61 : Bool) (r0a : (List (Int × (Int × (Int × (Int × Bool)))))) : Option (Unit ⊕ Bool) := (circ_gate_j13_T N t6 t8 t61 r0a).run some
noncomputable def circ_gate_l6_T (N : Nat) (t1 : Int) (t39a : Int) (t39b : Int) (r0a : (List (Int × (Int × (Int × (Int × Bool)))))) (r1a : Int) (t6 : Bool) (t40 : Int) : Tree ((Bool × Int) ⊕ (Unit ⊕ Bool)) :=
  let v1 : Bool := (ltI t40 2)
  .br v1 (
    .br (inRange t40 2) (
    let v2 : Int := (bif (decide (t40 = 1)) then t39b else t39a)
    .call (circ_takes N r1a) fun y3 => (
    let v4 : Bool := (leI y3 t40)
    .br v4 (
      let v5 : Bool := (v2 != 0)
      .br v5 (
        .ret (.inr (.inl ()))) (
        let v6 : Int := (IntKind.i64.wrap (t40 + 1))
        .ret (.inl (t6, v6)))) (
      let v7 : Bool := (ltI v2 0)
      .br v7 (
        .call (circ_gate_j13 N t6 v2 true r0a) fun y8 => (
        .alt y8 (fun y9 => (
          .ret (.inr (.inl ())))) (fun y10 => (
          let v11 : Int := (IntKind.i64.wrap (t40 + 1))
          .ret (.inl (y10, v11)))))) (
        let v12 : Bool := (leI t1 v2)
        .call (circ_gate_j13 N t6 v2 v12 r0a) fun y13 => (
        .alt y13 (fun y14 => (
          .ret (.inr (.inl ())))) (fun y15 => (
          let v16 : Int := (IntKind.i64.wrap (t40 + 1))
          .ret (.inl (y15, v16))))))))) .fail) (
    .ret (.inr (.inr t6)))
noncomputable def circ_gate_l6 (N : Nat) (t1 : Int) (t39a : Int) (t39b : Int) (r0a : (List (Int × (Int × (Int × (Int × Bool)))))) (r1a : Int) (v : (Bool × Int)) : Option (Unit ⊕ Bool) := loopN (fun v => circ_gate_l6_T N t1 t39a t39b r0a r1a v.1 v.2) N v
noncomputable def circ_gate_j4_T (N : Nat) (t1 : Int) (r0a : (List (Int × (Int × (Int × (Int × Bool)))))) (r1a : Int) (r1b : Int) (r1c : Int) (r1e : Bool) : Tree Bool :=
  let v1 : Bool := (r1a == 1)
  .call (circ_gate_l6 N t1 r1b r1c r0a r1a (v1, 0)) fun y2 => (
  .alt y2 (fun y3 => (
    .ret false)) (fun y4 => (
    let v5 : Bool := (r1e == y4)
    .ret v5)))
noncomputable def circ_gate_j4 (N : Nat) (t1 : Int) (r0a : (List (Int × (Int × (Int × (Int × Bool)))))) (r1a : Int) (r1b : Int) (r1c : Int) (r1e : Bool) : Option Bool := (circ_gate_j4_T N t1 r0a r1a r1b r1c r1e).run some
noncomputable def circ_gate_T (N : Nat) (t0a : (List (Int × (Int × (Int × (Int × Bool)))))) (t0b : Int) (t0c : Int) (t1 : Int) : Tree Bool :=
  .br (inRange t1 t0a.length) (
  let v1 : (Int × (Int × (Int × (Int × Bool)))) := (t0a.getD t1.toNat (0, (0, (0, (0, false)))))
  let v2 : Bool := (ltI v1.1 0)
  .br v2 (
    .ret false) (
    let v3 : Bool := (leI 12 v1.1)
    .br v3 (
      .ret false) (
      let v4 : Int := (IntKind.i64.wrap v1.2.2.2.1)
      .call (circ_most N t0b t0c v1.1) fun y5 => (
      let v6 : Bool := (ltI y5 v4)
      .br v6 (
        .ret false) (
        .call (circ_gate_j4 N t1 t0a v1.1 v1.2.1 v1.2.2.1 v1.2.2.2.2) fun y7 => (
        .ret y7)))))) .fail
noncomputable def circ_gate (N : Nat) (t0a : (List (Int × (Int × (Int × (Int × Bool)))))) (t0b : Int) (t0c : Int) (t1 : Int) : Option Bool := (circ_gate_T N t0a t0b t0c t1).run some
/-! ### bauta/circ.can -/
noncomputable def circ_can_l4_T (N : Nat) (t32 : Int) (r0a : (List (Int × (Int × (Int × (Int × Bool)))))) (r0b : Int) (r0c : Int) (t33 : Int) : Tree (Int ⊕ (Unit ⊕ Unit)) :=
  let v1 : Bool := (ltI t33 t32)
  .br v1 (
    .call (circ_gate N r0a r0b r0c t33) fun y2 => (
    let v3 : Bool := (!y2)
    .br v3 (
      .ret (.inr (.inl ()))) (
      let v4 : Int := (IntKind.i64.wrap (t33 + 1))
      .ret (.inl v4)))) (
    .ret (.inr (.inr ())))
noncomputable def circ_can_l4 (N : Nat) (t32 : Int) (r0a : (List (Int × (Int × (Int × (Int × Bool)))))) (r0b : Int) (r0c : Int) (v : Int) : Option (Unit ⊕ Unit) := loopN (fun v => circ_can_l4_T N t32 r0a r0b r0c v) N v
noncomputable def circ_can_l10_T (N : Nat) (t42 : (List (ByteArray × Int))) (t43 : Int) (r0a : (List (Int × (Int × (Int × (Int × Bool)))))) (t44 : Int) : Tree (Int ⊕ (Unit ⊕ Unit)) :=
  let v1 : Bool := (ltI t44 t43)
  .br v1 (
    .br (inRange t44 t42.length) (
    let v2 : (ByteArray × Int) := (t42.getD t44.toNat (ByteArray.empty, 0))
    let v3 : Bool := (ltI v2.2 0)
    .br v3 (
      .ret (.inr (.inl ()))) (
      let v4 : Int := (r0a.length : Int)
      let v5 : Bool := (leI v4 v2.2)
      .br v5 (
        .ret (.inr (.inl ()))) (
        let v6 : Int := (IntKind.i64.wrap (t44 + 1))
        .ret (.inl v6)))) .fail) (
    .ret (.inr (.inr ())))
noncomputable def circ_can_l10 (N : Nat) (t42 : (List (ByteArray × Int))) (t43 : Int) (r0a : (List (Int × (Int × (Int × (Int × Bool)))))) (v : Int) : Option (Unit ⊕ Unit) := loopN (fun v => circ_can_l10_T N t42 t43 r0a v) N v
noncomputable def circ_can_j3_T (N : Nat) (r0a : (List (Int × (Int × (Int × (Int × Bool)))))) (r0b : Int) (r0c : Int) (r0d : (List (ByteArray × Int))) : Tree Bool :=
  let v1 : Int := (r0a.length : Int)
  .call (circ_can_l4 N v1 r0a r0b r0c 0) fun y2 => (
  .alt y2 (fun y3 => (
    .ret false)) (fun y4 => (
    let v5 : Int := (r0d.length : Int)
    .call (circ_can_l10 N r0d v5 r0a 0) fun y6 => (
    .alt y6 (fun y7 => (
      .ret false)) (fun y8 => (
      .ret true))))))
noncomputable def circ_can_j3 (N : Nat) (r0a : (List (Int × (Int × (Int × (Int × Bool)))))) (r0b : Int) (r0c : Int) (r0d : (List (ByteArray × Int))) : Option Bool := (circ_can_j3_T N r0a r0b r0c r0d).run some
noncomputable def circ_can_T (N : Nat) (t0a : (List (Int × (Int × (Int × (Int × Bool)))))) (t0b : Int) (t0c : Int) (t0d : (List (ByteArray × Int))) : Tree Bool :=
  let v1 : Bool := (ltI t0b 0)
  .br v1 (
    .ret false) (
    let v2 : Bool := (ltI 1000 t0b)
    .br v2 (
      .ret false) (
      let v3 : Bool := (ltI t0c 0)
      .br v3 (
        .ret false) (
        let v4 : Bool := (ltI 1000 t0c)
        .br v4 (
          .ret false) (
          let v5 : Int := (t0a.length : Int)
          let v6 : Bool := (ltI 8000 v5)
          .br v6 (
            .ret false) (
            .call (circ_can_j3 N t0a t0b t0c t0d) fun y7 => (
            .ret y7))))))
noncomputable def circ_can (N : Nat) (t0a : (List (Int × (Int × (Int × (Int × Bool)))))) (t0b : Int) (t0c : Int) (t0d : (List (ByteArray × Int))) : Option Bool := (circ_can_T N t0a t0b t0c t0d).run some
/-! ### bauta/circ.Can -/
noncomputable def circ_Can_T (N : Nat) (t0a : (List (Int × (Int × (Int × (Int × Bool)))))) (t0b : Int) (t0c : Int) (t0d : (List (ByteArray × Int))) : Tree Bool :=
  .call (circ_can N t0a t0b t0c t0d) fun y1 => (
  .ret y1)
noncomputable def circ_Can (N : Nat) (t0a : (List (Int × (Int × (Int × (Int × Bool)))))) (t0b : Int) (t0c : Int) (t0d : (List (ByteArray × Int))) : Option Bool := (circ_Can_T N t0a t0b t0c t0d).run some
/-! ### bauta/lower.Plain$1 -/
noncomputable def lower_Plain_1_T (N : Nat) (t0a : Int) : Tree Bool :=
  let v1 : Bool := (t0a == 9)
  .br v1 (
    .ret true) (
    let v2 : Bool := (t0a == 10)
    .br v2 (
      .ret true) (
      let v3 : Bool := (t0a == 11)
      .ret v3))
noncomputable def lower_Plain_1 (N : Nat) (t0a : Int) : Option Bool := (lower_Plain_1_T N t0a).run some
/-! ### slices.IndexFunc[[]bauta/api.Gate,bauta/api.Gate] -/
noncomputable def slices_IndexFunc_l2_T (N : Nat) (t0 : (List (Int × (Int × (Int × (Int × Bool)))))) (t7 : Int) (t8 : Int) : Tree (Int ⊕ (Int ⊕ Unit)) :=
  let v1 : Bool := (ltI t8 t7)
  .br v1 (
    .br (inRange t8 t0.length) (
    let v2 : (Int × (Int × (Int × (Int × Bool)))) := (t0.getD t8.toNat (0, (0, (0, (0, false)))))
    .call (lower_Plain_1 N v2.1) fun y3 => (
    .br y3 (
      .ret (.inr (.inl t8))) (
      let v4 : Int := (IntKind.i64.wrap (t8 + 1))
      .ret (.inl v4)))) .fail) (
    .ret (.inr (.inr ())))
noncomputable def slices_IndexFunc_l2 (N : Nat) (t0 : (List (Int × (Int × (Int × (Int × Bool)))))) (t7 : Int) (v : Int) : Option (Int ⊕ Unit) := loopN (fun v => slices_IndexFunc_l2_T N t0 t7 v) N v
noncomputable def slices_IndexFunc_T (N : Nat) (t0 : (List (Int × (Int × (Int × (Int × Bool)))))) : Tree Int :=
  let v1 : Int := (t0.length : Int)
  .call (slices_IndexFunc_l2 N t0 v1 0) fun y2 => (
  .alt y2 (fun y3 => (
    .ret y3)) (fun y4 => (
    .ret (-1))))
noncomputable def slices_IndexFunc (N : Nat) (t0 : (List (Int × (Int × (Int × (Int × Bool)))))) : Option Int := (slices_IndexFunc_T N t0).run some
/-! ### slices.ContainsFunc[[]bauta/api.Gate,bauta/api.Gate] -/
noncomputable def slices_ContainsFunc_T (N : Nat) (t0 : (List (Int × (Int × (Int × (Int × Bool)))))) : Tree Bool :=
  .call (slices_IndexFunc N t0) fun y1 => (
  let v2 : Bool := (leI 0 y1)
  .ret v2)
noncomputable def slices_ContainsFunc (N : Nat) (t0 : (List (Int × (Int × (Int × (Int × Bool)))))) : Option Bool := (slices_ContainsFunc_T N t0).run some
/-! ### bauta/lower.Plain -/
noncomputable def lower_Plain_T (N : Nat) (t0a : (List (Int × (Int × (Int × (Int × Bool)))))) (t0b : Int) (t0c : Int) (t0d : (List (ByteArray × Int))) : Tree Bool :=
  .call (circ_Can N t0a t0b t0c t0d) fun y1 => (
  .br y1 (
    .call (slices_ContainsFunc N t0a) fun y2 => (
    let v3 : Bool := (!y2)
    .ret v3)) (
    .ret false))
noncomputable def lower_Plain (N : Nat) (t0a : (List (Int × (Int × (Int × (Int × Bool)))))) (t0b : Int) (t0c : Int) (t0d : (List (ByteArray × Int))) : Option Bool := (lower_Plain_T N t0a t0b t0c t0d).run some
/-! ### slices.Clone[[]bauta/api.Gate,bauta/api.Gate] -/
noncomputable def slices_Clone_T (N : Nat) (t0 : (List (Int × (Int × (Int × (Int × Bool)))))) : Tree (List (Int × (Int × (Int × (Int × Bool))))) :=
  .br t0.isEmpty (
    .any (
      .ret []) (
      .br (ltI ((0 + (t0.length : Int)) * 32) 140737488355328) (
      .ret t0) .fail)) (
    .br (ltI ((0 + (t0.length : Int)) * 32) 140737488355328) (
    .ret t0) .fail)
noncomputable def slices_Clone (N : Nat) (t0 : (List (Int × (Int × (Int × (Int × Bool)))))) : Option (List (Int × (Int × (Int × (Int × Bool))))) := (slices_Clone_T N t0).run some
/-! ### slices.Clone[[]bauta/api.Out,bauta/api.Out] -/
noncomputable def slices_Clone_2_T (N : Nat) (t0 : (List (ByteArray × Int))) : Tree (List (ByteArray × Int)) :=
  .br t0.isEmpty (
    .any (
      .ret []) (
      .br (ltI ((0 + (t0.length : Int)) * 24) 140737488355328) (
      .ret t0) .fail)) (
    .br (ltI ((0 + (t0.length : Int)) * 24) 140737488355328) (
    .ret t0) .fail)
noncomputable def slices_Clone_2 (N : Nat) (t0 : (List (ByteArray × Int))) : Option (List (ByteArray × Int)) := (slices_Clone_2_T N t0).run some
/-! ### bauta/fold.own -/
noncomputable def fold_own_T (N : Nat) (t0a : (List (Int × (Int × (Int × (Int × Bool)))))) (t0d : (List (ByteArray × Int))) : Tree ((List (Int × (Int × (Int × (Int × Bool))))) × (List (ByteArray × Int))) :=
  .call (slices_Clone N t0a) fun y1 => (
  .call (slices_Clone_2 N t0d) fun y2 => (
  .ret (y1, y2)))
noncomputable def fold_own (N : Nat) (t0a : (List (Int × (Int × (Int × (Int × Bool)))))) (t0d : (List (ByteArray × Int))) : Option ((List (Int × (Int × (Int × (Int × Bool))))) × (List (ByteArray × Int))) := (fold_own_T N t0a t0d).run some
/-! ### bauta/fold.input -/
noncomputable def fold_input_T (N : Nat) (t0a : Int) : Tree Bool :=
  let v1 : Bool := (t0a == 1)
  .br v1 (
    .ret true) (
    let v2 : Bool := (t0a == 2)
    .ret v2)
noncomputable def fold_input (N : Nat) (t0a : Int) : Option Bool := (fold_input_T N t0a).run some
/-! ### bauta/fold.twice -/
noncomputable def fold_twice_l3_T (N : Nat) (t8 : (List (Int × (Int × (Int × (Int × Bool)))))) (t9 : Int) (t10 : Int) (r0 : (List ((Int × (Int × (Int × (Int × Bool)))) × Bool))) : Tree ((Int × (List ((Int × (Int × (Int × (Int × Bool)))) × Bool))) ⊕ (Unit ⊕ Unit)) :=
  let v1 : Bool := (ltI t10 t9)
  .br v1 (
    .br (inRange t10 t8.length) (
    let v2 : (Int × (Int × (Int × (Int × Bool)))) := (t8.getD t10.toNat (0, (0, (0, (0, false)))))
    .call (fold_input N v2.1) fun y3 => (
    .br y3 (
      let v4 : Bool := (getE (eqE (.prod (.int .i64) (.prod (.int .i64) (.prod (.int .i64) (.prod (.int .u32) .bool))))) (v2.1, (v2.2.1, (v2.2.2.1, (v2.2.2.2.1, v2.2.2.2.2)))) false r0)
      .br v4 (
        .ret (.inr (.inl ()))) (
        .call (fold_input N v2.1) fun y5 => (
        let v6 : (List ((Int × (Int × (Int × (Int × Bool)))) × Bool)) := (setE (eqE (.prod (.int .i64) (.prod (.int .i64) (.prod (.int .i64) (.prod (.int .u32) .bool))))) (v2.1, (v2.2.1, (v2.2.2.1, (v2.2.2.2.1, v2.2.2.2.2)))) y5 r0)
        let v7 : Int := (IntKind.i64.wrap (t10 + 1))
        .ret (.inl (v7, v6))))) (
      .call (fold_input N v2.1) fun y8 => (
      let v9 : (List ((Int × (Int × (Int × (Int × Bool)))) × Bool)) := (setE (eqE (.prod (.int .i64) (.prod (.int .i64) (.prod (.int .i64) (.prod (.int .u32) .bool))))) (v2.1, (v2.2.1, (v2.2.2.1, (v2.2.2.2.1, v2.2.2.2.2)))) y8 r0)
      let v10 : Int := (IntKind.i64.wrap (t10 + 1))
      .ret (.inl (v10, v9)))))) .fail) (
    .ret (.inr (.inr ())))
noncomputable def fold_twice_l3 (N : Nat) (t8 : (List (Int × (Int × (Int × (Int × Bool)))))) (t9 : Int) (v : (Int × (List ((Int × (Int × (Int × (Int × Bool)))) × Bool)))) : Option (Unit ⊕ Unit) := loopN (fun v => fold_twice_l3_T N t8 t9 v.1 v.2) N v
noncomputable def fold_twice_T (N : Nat) (t0a : (List (Int × (Int × (Int × (Int × Bool)))))) : Tree Bool :=
  let v1 : Int := (t0a.length : Int)
  .call (fold_twice_l3 N t0a v1 (0, [])) fun y2 => (
  .alt y2 (fun y3 => (
    .ret true)) (fun y4 => (
    .ret false)))
noncomputable def fold_twice (N : Nat) (t0a : (List (Int × (Int × (Int × (Int × Bool)))))) : Option Bool := (fold_twice_T N t0a).run some
/-! ### (*bauta/fold.maker).number -/
noncomputable def fold_maker_number_T (N : Nat) (t1 : Int) (r2 : (List (Int × (Int × (Int × (Int × Bool)))))) : Tree (Int × Bool) :=
  .br (inRange t1 r2.length) (
  let v1 : (Int × (Int × (Int × (Int × Bool)))) := (r2.getD t1.toNat (0, (0, (0, (0, false)))))
  .br (inRange t1 r2.length) (
  let v2 : (Int × (Int × (Int × (Int × Bool)))) := (r2.getD t1.toNat (0, (0, (0, (0, false)))))
  let v3 : Bool := (v2.1 == 0)
  .ret (v1.2.2.2.1, v3)) .fail) .fail
noncomputable def fold_maker_number (N : Nat) (t1 : Int) (r2 : (List (Int × (Int × (Int × (Int × Bool)))))) : Option (Int × Bool) := (fold_maker_number_T N t1 r2).run some
/-! ### bauta/fold.one -/
noncomputable def fold_one_T (N : Nat) (t0a : Int) : Tree Bool :=
  let v1 : Bool := (leI 5 t0a)
  .br v1 (
    let v2 : Bool := (leI t0a 8)
    .ret v2) (
    .ret false)
noncomputable def fold_one (N : Nat) (t0a : Int) : Option Bool := (fold_one_T N t0a).run some
/-! ### bauta/fold.both -/
noncomputable def fold_both_T (N : Nat) (t0a : Int) : Tree Bool :=
  let v1 : Bool := (t0a == 3)
  .br v1 (
    .ret true) (
    let v2 : Bool := (t0a == 4)
    .br v2 (
      .ret true) (
      let v3 : Bool := (t0a == 9)
      .br v3 (
        .ret true) (
        let v4 : Bool := (t0a == 10)
        .br v4 (
          .ret true) (
          let v5 : Bool := (t0a == 11)
          .ret v5))))
noncomputable def fold_both (N : Nat) (t0a : Int) : Option Bool := (fold_both_T N t0a).run some
/-! ### bauta/fold.key -/
noncomputable def fold_key_j2_T (N : Nat) (t17 : Bool) (r0b : Int) (r0c : Int) : Tree (Int × Int) :=
  .br t17 (
    .ret (r0c, r0b)) (
    .ret (r0b, r0c))
noncomputable def fold_key_j2 (N : Nat) (t17 : Bool) (r0b : Int) (r0c : Int) : Option (Int × Int) := (fold_key_j2_T N t17 r0b r0c).run some
noncomputable def fold_key_T (N : Nat) (t0a : Int) (t0b : Int) (t0c : Int) : Tree (Int × Int) :=
  let v1 : Bool := (t0a == 3)
  .br v1 (
    let v2 : Bool := (ltI t0c t0b)
    .call (fold_key_j2 N v2 t0b t0c) fun y3 => (
    .ret (y3.1, y3.2))) (
    let v4 : Bool := (t0a == 4)
    .br v4 (
      let v5 : Bool := (ltI t0c t0b)
      .call (fold_key_j2 N v5 t0b t0c) fun y6 => (
      .ret (y6.1, y6.2))) (
      .call (fold_key_j2 N false t0b t0c) fun y7 => (
      .ret (y7.1, y7.2))))
noncomputable def fold_key (N : Nat) (t0a : Int) (t0b : Int) (t0c : Int) : Option (Int × Int) := (fold_key_T N t0a t0b t0c).run some
/-! ### (*bauta/fold.maker).add -/
noncomputable def fold_maker_add_j3_T (N : Nat) (t16 : Bool) (r2b : Int) (r2e : Bool) (r3 : (List (Int × (Int × (Int × (Int × Bool)))))) : Tree Bool :=
  .br t16 (
    .br (inRange r2b r3.length) (
    let v1 : (Int × (Int × (Int × (Int × Bool)))) := (r3.getD r2b.toNat (0, (0, (0, (0, false)))))
    .ret v1.2.2.2.2) .fail) (
    .ret r2e)
noncomputable def fold_maker_add_j3 (N : Nat) (t16 : Bool) (r2b : Int) (r2e : Bool) (r3 : (List (Int × (Int × (Int × (Int × Bool)))))) : Option Bool := (fold_maker_add_j3_T N t16 r2b r2e r3).run some
noncomputable def fold_maker_add_j6_T (N : Nat) (r1 : (List ((Int × (Int × (Int × (Int × Bool)))) × Int))) (r2a : Int) (r2b : Int) (r2c : Int) (r2d : Int) (r2e : Bool) (r3 : (List (Int × (Int × (Int × (Int × Bool)))))) : Tree (Int × (List ((Int × (Int × (Int × (Int × Bool)))) × Int)) × (List (Int × (Int × (Int × (Int × Bool)))))) :=
  .call (fold_key N r2a r2b r2c) fun y1 => (
  let v2 : Int := (getE (eqE (.prod (.int .i64) (.prod (.int .i64) (.prod (.int .i64) (.prod (.int .u32) .bool))))) (r2a, (y1.1, (y1.2, (r2d, false)))) 0 r1)
  let v3 : Bool := (hasE (eqE (.prod (.int .i64) (.prod (.int .i64) (.prod (.int .i64) (.prod (.int .u32) .bool))))) (r2a, (y1.1, (y1.2, (r2d, false)))) r1)
  .br v3 (
    .ret (v2, r1, r3)) (
    .br (ltI (((r3.length : Int) + 1) * 32) 140737488355328) (
    let v4 : (List (Int × (Int × (Int × (Int × Bool))))) := (r3 ++ [(r2a, (r2b, (r2c, (r2d, r2e))))])
    .call (fold_key N r2a r2b r2c) fun y5 => (
    let v6 : Int := (v4.length : Int)
    let v7 : Int := (IntKind.i64.wrap (v6 - 1))
    let v8 : (List ((Int × (Int × (Int × (Int × Bool)))) × Int)) := (setE (eqE (.prod (.int .i64) (.prod (.int .i64) (.prod (.int .i64) (.prod (.int .u32) .bool))))) (r2a, (y5.1, (y5.2, (r2d, false)))) v7 r1)
    let v9 : Int := (v4.length : Int)
    let v10 : Int := (IntKind.i64.wrap (v9 - 1))
    .ret (v10, v8, v4))) .fail))
noncomputable def fold_maker_add_j6 (N : Nat) (r1 : (List ((Int × (Int × (Int × (Int × Bool)))) × Int))) (r2a : Int) (r2b : Int) (r2c : Int) (r2d : Int) (r2e : Bool) (r3 : (List (Int × (Int × (Int × (Int × Bool)))))) : Option (Int × (List ((Int × (Int × (Int × (Int × Bool)))) × Int)) × (List (Int × (Int × (Int × (Int × Bool)))))) := (fold_maker_add_j6_T N r1 r2a r2b r2c r2d r2e r3).run some
noncomputable def fold_maker_add_j4_T (N : Nat) (r1 : (List ((Int × (Int × (Int × (Int × Bool)))) × Int))) (r2a : Int) (r2b : Int) (r2c : Int) (r2d : Int) (r2e : Bool) (r3 : (List (Int × (Int × (Int × (Int × Bool)))))) : Tree (Int × (List ((Int × (Int × (Int × (Int × Bool)))) × Int)) × (List (Int × (Int × (Int × (Int × Bool)))))) :=
  .call (fold_both N r2a) fun y1 => (
  .br y1 (
    .br r2e (
      .call (fold_maker_add_j6 N r1 r2a r2b r2c r2d true r3) fun y2 => (
      .ret (y2.1, y2.2.1, y2.2.2))) (
      .br (inRange r2c r3.length) (
      let v3 : (Int × (Int × (Int × (Int × Bool)))) := (r3.getD r2c.toNat (0, (0, (0, (0, false)))))
      .call (fold_maker_add_j6 N r1 r2a r2b r2c r2d v3.2.2.2.2 r3) fun y4 => (
      .ret (y4.1, y4.2.1, y4.2.2))) .fail)) (
    .call (fold_maker_add_j6 N r1 r2a r2b r2c r2d r2e r3) fun y5 => (
    .ret (y5.1, y5.2.1, y5.2.2))))
noncomputable def fold_maker_add_j4 (N : Nat) (r1 : (List ((Int × (Int × (Int × (Int × Bool)))) × Int))) (r2a : Int) (r2b : Int) (r2c : Int) (r2d : Int) (r2e : Bool) (r3 : (List (Int × (Int × (Int × (Int × Bool)))))) : Option (Int × (List ((Int × (Int × (Int × (Int × Bool)))) × Int)) × (List (Int × (Int × (Int × (Int × Bool)))))) := (fold_maker_add_j4_T N r1 r2a r2b r2c r2d r2e r3).run some
noncomputable def fold_maker_add_T (N : Nat) (t1a : Int) (t1b : Int) (t1c : Int) (t1d : Int) (r1 : (List ((Int × (Int × (Int × (Int × Bool)))) × Int))) (r2 : (List (Int × (Int × (Int × (Int × Bool)))))) : Tree (Int × (List ((Int × (Int × (Int × (Int × Bool)))) × Int)) × (List (Int × (Int × (Int × (Int × Bool)))))) :=
  let v1 : Bool := (t1a == 1)
  .call (fold_one N t1a) fun y2 => (
  .br y2 (
    .call (fold_maker_add_j3 N true t1b v1 r2) fun y3 => (
    .call (fold_maker_add_j4 N r1 t1a t1b t1c t1d y3 r2) fun y4 => (
    .ret (y4.1, y4.2.1, y4.2.2)))) (
    .call (fold_both N t1a) fun y5 => (
    .call (fold_maker_add_j3 N y5 t1b v1 r2) fun y6 => (
    .call (fold_maker_add_j4 N r1 t1a t1b t1c t1d y6 r2) fun y7 => (
    .ret (y7.1, y7.2.1, y7.2.2))))))
noncomputable def fold_maker_add (N : Nat) (t1a : Int) (t1b : Int) (t1c : Int) (t1d : Int) (r1 : (List ((Int × (Int × (Int × (Int × Bool)))) × Int))) (r2 : (List (Int × (Int × (Int × (Int × Bool)))))) : Option (Int × (List ((Int × (Int × (Int × (Int × Bool)))) × Int)) × (List (Int × (Int × (Int × (Int × Bool)))))) := (fold_maker_add_T N t1a t1b t1c t1d r1 r2).run some
/-! ### (*bauta/fold.maker).constant -/
noncomputable def fold_maker_constant_T (N : Nat) (t1 : Int) (r1 : (List ((Int × (Int × (Int × (Int × Bool)))) × Int))) (r2 : (List (Int × (Int × (Int × (Int × Bool)))))) : Tree (Int × (List ((Int × (Int × (Int × (Int × Bool)))) × Int)) × (List (Int × (Int × (Int × (Int × Bool)))))) :=
  .call (fold_maker_add N 0 0 0 t1 r1 r2) fun y1 => (
  .ret (y1.1, y1.2.1, y1.2.2))
noncomputable def fold_maker_constant (N : Nat) (t1 : Int) (r1 : (List ((Int × (Int × (Int × (Int × Bool)))) × Int))) (r2 : (List (Int × (Int × (Int × (Int × Bool)))))) : Option (Int × (List ((Int × (Int × (Int × (Int × Bool)))) × Int)) × (List (Int × (Int × (Int × (Int × Bool)))))) := (fold_maker_constant_T N t1 r1 r2).run some
/-! ### (*bauta/fold.maker).and -/
noncomputable def fold_maker_and_j9_T (N : Nat) (t1 : Int) (t7 : Int) (t8 : Bool) (t9 : Int) (t10 : Bool) (t43 : Bool) (r1 : (List ((Int × (Int × (Int × (Int × Bool)))) × Int))) (r2 : (List (Int × (Int × (Int × (Int × Bool)))))) : Tree ((Int × (List ((Int × (Int × (Int × (Int × Bool)))) × Int)) × (List (Int × (Int × (Int × (Int × Bool)))))) ⊕ Unit) :=
  .br t43 (
    .ret (.inl (t1, r1, r2))) (
    .br t8 (
      let v1 : Bool := (t7 == 0)
      .br v1 (
        .br v1 (
          .call (fold_maker_constant N 0 r1 r2) fun y2 => (
          .ret (.inl (y2.1, y2.2.1, y2.2.2)))) (
          .ret (.inr ()))) (
        .br t10 (
          let v3 : Bool := (t9 == 0)
          .br v3 (
            .call (fold_maker_constant N 0 r1 r2) fun y4 => (
            .ret (.inl (y4.1, y4.2.1, y4.2.2)))) (
            .ret (.inr ()))) (
          .ret (.inr ())))) (
      .br t10 (
        let v5 : Bool := (t9 == 0)
        .br v5 (
          .call (fold_maker_constant N 0 r1 r2) fun y6 => (
          .ret (.inl (y6.1, y6.2.1, y6.2.2)))) (
          .ret (.inr ()))) (
        .ret (.inr ()))))
noncomputable def fold_maker_and_j9 (N : Nat) (t1 : Int) (t7 : Int) (t8 : Bool) (t9 : Int) (t10 : Bool) (t43 : Bool) (r1 : (List ((Int × (Int × (Int × (Int × Bool)))) × Int))) (r2 : (List (Int × (Int × (Int × (Int × Bool)))))) : Option ((Int × (List ((Int × (Int × (Int × (Int × Bool)))) × Int)) × (List (Int × (Int × (Int × (Int × Bool)))))) ⊕ Unit) := (fold_maker_and_j9_T N t1 t7 t8 t9 t10 t43 r1 r2).run some
noncomputable def fold_maker_and_j7_T (N : Nat) (t1 : Int) (t2 : Int) (t7 : Int) (t8 : Bool) (t9 : Int) (t10 : Bool) (t33 : Bool) (r1 : (List ((Int × (Int × (Int × (Int × Bool)))) × Int))) (r2 : (List (Int × (Int × (Int × (Int × Bool)))))) : Tree ((Int × (List ((Int × (Int × (Int × (Int × Bool)))) × Int)) × (List (Int × (Int × (Int × (Int × Bool)))))) ⊕ Unit) :=
  .br t33 (
    .ret (.inl (t2, r1, r2))) (
    .br t10 (
      let v1 : Bool := (t9 == 4294967295)
      .call (fold_maker_and_j9 N t1 t7 t8 t9 t10 v1 r1 r2) fun y2 => (
      .alt y2 (fun y3 => (
        .ret (.inl (y3.1, y3.2.1, y3.2.2)))) (fun y4 => (
        .ret (.inr ()))))) (
      .call (fold_maker_and_j9 N t1 t7 t8 t9 t10 false r1 r2) fun y5 => (
      .alt y5 (fun y6 => (
        .ret (.inl (y6.1, y6.2.1, y6.2.2)))) (fun y7 => (
        .ret (.inr ()))))))
noncomputable def fold_maker_and_j7 (N : Nat) (t1 : Int) (t2 : Int) (t7 : Int) (t8 : Bool) (t9 : Int) (t10 : Bool) (t33 : Bool) (r1 : (List ((Int × (Int × (Int × (Int × Bool)))) × Int))) (r2 : (List (Int × (Int × (Int × (Int × Bool)))))) : Option ((Int × (List ((Int × (Int × (Int × (Int × Bool)))) × Int)) × (List (Int × (Int × (Int × (Int × Bool)))))) ⊕ Unit) := (fold_maker_and_j7_T N t1 t2 t7 t8 t9 t10 t33 r1 r2).run some
noncomputable def fold_maker_and_j4_T (N : Nat) (t1 : Int) (t2 : Int) (t7 : Int) (t8 : Bool) (t9 : Int) (t10 : Bool) (t23 : Bool) (r1 : (List ((Int × (Int × (Int × (Int × Bool)))) × Int))) (r2 : (List (Int × (Int × (Int × (Int × Bool)))))) : Tree ((Int × (List ((Int × (Int × (Int × (Int × Bool)))) × Int)) × (List (Int × (Int × (Int × (Int × Bool)))))) ⊕ Unit) :=
  .br t23 (
    let v1 : Int := (IntKind.u32.wrap (((BitVec.ofInt 32 t7) &&& (BitVec.ofInt 32 t9)).toNat : Int))
    .call (fold_maker_constant N v1 r1 r2) fun y2 => (
    .ret (.inl (y2.1, y2.2.1, y2.2.2)))) (
    .br t8 (
      let v3 : Bool := (t7 == 4294967295)
      .br v3 (
        .call (fold_maker_and_j7 N t1 t2 t7 t8 t9 t10 v3 r1 r2) fun y4 => (
        .alt y4 (fun y5 => (
          .ret (.inl (y5.1, y5.2.1, y5.2.2)))) (fun y6 => (
          .ret (.inr ()))))) (
        let v7 : Bool := (t1 == t2)
        .call (fold_maker_and_j7 N t1 t2 t7 t8 t9 t10 v7 r1 r2) fun y8 => (
        .alt y8 (fun y9 => (
          .ret (.inl (y9.1, y9.2.1, y9.2.2)))) (fun y10 => (
          .ret (.inr ())))))) (
      let v11 : Bool := (t1 == t2)
      .call (fold_maker_and_j7 N t1 t2 t7 t8 t9 t10 v11 r1 r2) fun y12 => (
      .alt y12 (fun y13 => (
        .ret (.inl (y13.1, y13.2.1, y13.2.2)))) (fun y14 => (
        .ret (.inr ()))))))
noncomputable def fold_maker_and_j4 (N : Nat) (t1 : Int) (t2 : Int) (t7 : Int) (t8 : Bool) (t9 : Int) (t10 : Bool) (t23 : Bool) (r1 : (List ((Int × (Int × (Int × (Int × Bool)))) × Int))) (r2 : (List (Int × (Int × (Int × (Int × Bool)))))) : Option ((Int × (List ((Int × (Int × (Int × (Int × Bool)))) × Int)) × (List (Int × (Int × (Int × (Int × Bool)))))) ⊕ Unit) := (fold_maker_and_j4_T N t1 t2 t7 t8 t9 t10 t23 r1 r2).run some
noncomputable def fold_maker_and_T (N : Nat) (t1 : Int) (t2 : Int) (r1 : (List ((Int × (Int × (Int × (Int × Bool)))) × Int))) (r2 : (List (Int × (Int × (Int × (Int × Bool)))))) : Tree (Int × (List ((Int × (Int × (Int × (Int × Bool)))) × Int)) × (List (Int × (Int × (Int × (Int × Bool)))))) :=
  .call (fold_maker_number N t1 r2) fun y1 => (
  .call (fold_maker_number N t2 r2) fun y2 => (
  .br y1.2 (
    .call (fold_maker_and_j4 N t1 t2 y1.1 y1.2 y2.1 y2.2 y2.2 r1 r2) fun y3 => (
    .alt y3 (fun y4 => (
      .ret (y4.1, y4.2.1, y4.2.2))) (fun y5 => (
      .call (fold_maker_add N 3 t1 t2 0 r1 r2) fun y6 => (
      .ret (y6.1, y6.2.1, y6.2.2)))))) (
    .call (fold_maker_and_j4 N t1 t2 y1.1 y1.2 y2.1 y2.2 false r1 r2) fun y7 => (
    .alt y7 (fun y8 => (
      .ret (y8.1, y8.2.1, y8.2.2))) (fun y9 => (
      .call (fold_maker_add N 3 t1 t2 0 r1 r2) fun y10 => (
      .ret (y10.1, y10.2.1, y10.2.2))))))))
noncomputable def fold_maker_and (N : Nat) (t1 : Int) (t2 : Int) (r1 : (List ((Int × (Int × (Int × (Int × Bool)))) × Int))) (r2 : (List (Int × (Int × (Int × (Int × Bool)))))) : Option (Int × (List ((Int × (Int × (Int × (Int × Bool)))) × Int)) × (List (Int × (Int × (Int × (Int × Bool)))))) := (fold_maker_and_T N t1 t2 r1 r2).run some
/-! ### (*bauta/fold.maker).not -/
noncomputable def fold_maker_not_T (N : Nat) (t1 : Int) (r1 : (List ((Int × (Int × (Int × (Int × Bool)))) × Int))) (r2 : (List (Int × (Int × (Int × (Int × Bool)))))) : Tree (Int × (List ((Int × (Int × (Int × (Int × Bool)))) × Int)) × (List (Int × (Int × (Int × (Int × Bool)))))) :=
  .call (fold_maker_number N t1 r2) fun y1 => (
  .br y1.2 (
    let v2 : Int := (IntKind.u32.wrap ((BitVec.ofInt 32 4294967295 ^^^ BitVec.ofInt 32 y1.1).toNat : Int))
    .call (fold_maker_constant N v2 r1 r2) fun y3 => (
    .ret (y3.1, y3.2.1, y3.2.2))) (
    .br (inRange t1 r2.length) (
    let v4 : (Int × (Int × (Int × (Int × Bool)))) := (r2.getD t1.toNat (0, (0, (0, (0, false)))))
    let v5 : Bool := (v4.1 == 5)
    .br v5 (
      .br (inRange t1 r2.length) (
      let v6 : (Int × (Int × (Int × (Int × Bool)))) := (r2.getD t1.toNat (0, (0, (0, (0, false)))))
      .ret (v6.2.1, r1, r2)) .fail) (
      .call (fold_maker_add N 5 t1 0 0 r1 r2) fun y7 => (
      .ret (y7.1, y7.2.1, y7.2.2)))) .fail))
noncomputable def fold_maker_not (N : Nat) (t1 : Int) (r1 : (List ((Int × (Int × (Int × (Int × Bool)))) × Int))) (r2 : (List (Int × (Int × (Int × (Int × Bool)))))) : Option (Int × (List ((Int × (Int × (Int × (Int × Bool)))) × Int)) × (List (Int × (Int × (Int × (Int × Bool)))))) := (fold_maker_not_T N t1 r1 r2).run some
/-! ### (*bauta/fold.maker).xor -/
noncomputable def fold_maker_xor_j12_T (N : Nat) (t1 : Int) (t2 : Int) (t9 : Int) (t10 : Bool) (t53 : Bool) (r1 : (List ((Int × (Int × (Int × (Int × Bool)))) × Int))) (r2 : (List (Int × (Int × (Int × (Int × Bool)))))) : Tree ((Int × (List ((Int × (Int × (Int × (Int × Bool)))) × Int)) × (List (Int × (Int × (Int × (Int × Bool)))))) ⊕ Unit) :=
  .br t53 (
    .call (fold_maker_not N t2 r1 r2) fun y1 => (
    .ret (.inl (y1.1, y1.2.1, y1.2.2)))) (
    .br t10 (
      let v2 : Bool := (t9 == 4294967295)
      .br v2 (
        .call (fold_maker_not N t1 r1 r2) fun y3 => (
        .ret (.inl (y3.1, y3.2.1, y3.2.2)))) (
        .ret (.inr ()))) (
      .ret (.inr ())))
noncomputable def fold_maker_xor_j12 (N : Nat) (t1 : Int) (t2 : Int) (t9 : Int) (t10 : Bool) (t53 : Bool) (r1 : (List ((Int × (Int × (Int × (Int × Bool)))) × Int))) (r2 : (List (Int × (Int × (Int × (Int × Bool)))))) : Option ((Int × (List ((Int × (Int × (Int × (Int × Bool)))) × Int)) × (List (Int × (Int × (Int × (Int × Bool)))))) ⊕ Unit) := (fold_maker_xor_j12_T N t1 t2 t9 t10 t53 r1 r2).run some
noncomputable def fold_maker_xor_j10_T (N : Nat) (t1 : Int) (t2 : Int) (t7 : Int) (t8 : Bool) (t9 : Int) (t10 : Bool) (t46 : Bool) (r1 : (List ((Int × (Int × (Int × (Int × Bool)))) × Int))) (r2 : (List (Int × (Int × (Int × (Int × Bool)))))) : Tree ((Int × (List ((Int × (Int × (Int × (Int × Bool)))) × Int)) × (List (Int × (Int × (Int × (Int × Bool)))))) ⊕ Unit) :=
  .br t46 (
    .ret (.inl (t1, r1, r2))) (
    .br t8 (
      let v1 : Bool := (t7 == 4294967295)
      .call (fold_maker_xor_j12 N t1 t2 t9 t10 v1 r1 r2) fun y2 => (
      .alt y2 (fun y3 => (
        .ret (.inl (y3.1, y3.2.1, y3.2.2)))) (fun y4 => (
        .ret (.inr ()))))) (
      .call (fold_maker_xor_j12 N t1 t2 t9 t10 false r1 r2) fun y5 => (
      .alt y5 (fun y6 => (
        .ret (.inl (y6.1, y6.2.1, y6.2.2)))) (fun y7 => (
        .ret (.inr ()))))))
noncomputable def fold_maker_xor_j10 (N : Nat) (t1 : Int) (t2 : Int) (t7 : Int) (t8 : Bool) (t9 : Int) (t10 : Bool) (t46 : Bool) (r1 : (List ((Int × (Int × (Int × (Int × Bool)))) × Int))) (r2 : (List (Int × (Int × (Int × (Int × Bool)))))) : Option ((Int × (List ((Int × (Int × (Int × (Int × Bool)))) × Int)) × (List (Int × (Int × (Int × (Int × Bool)))))) ⊕ Unit) := (fold_maker_xor_j10_T N t1 t2 t7 t8 t9 t10 t46 r1 r2).run some
noncomputable def fold_maker_xor_j8_T (N : Nat) (t1 : Int) (t2 : Int) (t7 : Int) (t8 : Bool) (t9 : Int) (t10 : Bool) (t39 : Bool) (r1 : (List ((Int × (Int × (Int × (Int × Bool)))) × Int))) (r2 : (List (Int × (Int × (Int × (Int × Bool)))))) : Tree ((Int × (List ((Int × (Int × (Int × (Int × Bool)))) × Int)) × (List (Int × (Int × (Int × (Int × Bool)))))) ⊕ Unit) :=
  .br t39 (
    .ret (.inl (t2, r1, r2))) (
    .br t10 (
      let v1 : Bool := (t9 == 0)
      .call (fold_maker_xor_j10 N t1 t2 t7 t8 t9 t10 v1 r1 r2) fun y2 => (
      .alt y2 (fun y3 => (
        .ret (.inl (y3.1, y3.2.1, y3.2.2)))) (fun y4 => (
        .ret (.inr ()))))) (
      .call (fold_maker_xor_j10 N t1 t2 t7 t8 t9 t10 false r1 r2) fun y5 => (
      .alt y5 (fun y6 => (
        .ret (.inl (y6.1, y6.2.1, y6.2.2)))) (fun y7 => (
        .ret (.inr ()))))))
noncomputable def fold_maker_xor_j8 (N : Nat) (t1 : Int) (t2 : Int) (t7 : Int) (t8 : Bool) (t9 : Int) (t10 : Bool) (t39 : Bool) (r1 : (List ((Int × (Int × (Int × (Int × Bool)))) × Int))) (r2 : (List (Int × (Int × (Int × (Int × Bool)))))) : Option ((Int × (List ((Int × (Int × (Int × (Int × Bool)))) × Int)) × (List (Int × (Int × (Int × (Int × Bool)))))) ⊕ Unit) := (fold_maker_xor_j8_T N t1 t2 t7 t8 t9 t10 t39 r1 r2).run some
noncomputable def fold_maker_xor_j4_T (N : Nat) (t1 : Int) (t2 : Int) (t7 : Int) (t8 : Bool) (t9 : Int) (t10 : Bool) (t23 : Bool) (r1 : (List ((Int × (Int × (Int × (Int × Bool)))) × Int))) (r2 : (List (Int × (Int × (Int × (Int × Bool)))))) : Tree ((Int × (List ((Int × (Int × (Int × (Int × Bool)))) × Int)) × (List (Int × (Int × (Int × (Int × Bool)))))) ⊕ Unit) :=
  .br t23 (
    let v1 : Int := (IntKind.u32.wrap (((BitVec.ofInt 32 t7) ^^^ (BitVec.ofInt 32 t9)).toNat : Int))
    .call (fold_maker_constant N v1 r1 r2) fun y2 => (
    .ret (.inl (y2.1, y2.2.1, y2.2.2)))) (
    let v3 : Bool := (t1 == t2)
    .br v3 (
      .call (fold_maker_constant N 0 r1 r2) fun y4 => (
      .ret (.inl (y4.1, y4.2.1, y4.2.2)))) (
      .br t8 (
        let v5 : Bool := (t7 == 0)
        .call (fold_maker_xor_j8 N t1 t2 t7 t8 t9 t10 v5 r1 r2) fun y6 => (
        .alt y6 (fun y7 => (
          .ret (.inl (y7.1, y7.2.1, y7.2.2)))) (fun y8 => (
          .ret (.inr ()))))) (
        .call (fold_maker_xor_j8 N t1 t2 t7 t8 t9 t10 false r1 r2) fun y9 => (
        .alt y9 (fun y10 => (
          .ret (.inl (y10.1, y10.2.1, y10.2.2)))) (fun y11 => (
          .ret (.inr ())))))))
noncomputable def fold_maker_xor_j4 (N : Nat) (t1 : Int) (t2 : Int) (t7 : Int) (t8 : Bool) (t9 : Int) (t10 : Bool) (t23 : Bool) (r1 : (List ((Int × (Int × (Int × (Int × Bool)))) × Int))) (r2 : (List (Int × (Int × (Int × (Int × Bool)))))) : Option ((Int × (List ((Int × (Int × (Int × (Int × Bool)))) × Int)) × (List (Int × (Int × (Int × (Int × Bool)))))) ⊕ Unit) := (fold_maker_xor_j4_T N t1 t2 t7 t8 t9 t10 t23 r1 r2).run some
noncomputable def fold_maker_xor_T (N : Nat) (t1 : Int) (t2 : Int) (r1 : (List ((Int × (Int × (Int × (Int × Bool)))) × Int))) (r2 : (List (Int × (Int × (Int × (Int × Bool)))))) : Tree (Int × (List ((Int × (Int × (Int × (Int × Bool)))) × Int)) × (List (Int × (Int × (Int × (Int × Bool)))))) :=
  .call (fold_maker_number N t1 r2) fun y1 => (
  .call (fold_maker_number N t2 r2) fun y2 => (
  .br y1.2 (
    .call (fold_maker_xor_j4 N t1 t2 y1.1 y1.2 y2.1 y2.2 y2.2 r1 r2) fun y3 => (
    .alt y3 (fun y4 => (
      .ret (y4.1, y4.2.1, y4.2.2))) (fun y5 => (
      .call (fold_maker_add N 4 t1 t2 0 r1 r2) fun y6 => (
      .ret (y6.1, y6.2.1, y6.2.2)))))) (
    .call (fold_maker_xor_j4 N t1 t2 y1.1 y1.2 y2.1 y2.2 false r1 r2) fun y7 => (
    .alt y7 (fun y8 => (
      .ret (y8.1, y8.2.1, y8.2.2))) (fun y9 => (
      .call (fold_maker_add N 4 t1 t2 0 r1 r2) fun y10 => (
      .ret (y10.1, y10.2.1, y10.2.2))))))))
noncomputable def fold_maker_xor (N : Nat) (t1 : Int) (t2 : Int) (r1 : (List ((Int × (Int × (Int × (Int × Bool)))) × Int))) (r2 : (List (Int × (Int × (Int × (Int × Bool)))))) : Option (Int × (List ((Int × (Int × (Int × (Int × Bool)))) × Int)) × (List (Int × (Int × (Int × (Int × Bool)))))) := (fold_maker_xor_T N t1 t2 r1 r2).run some
/-! ### math/bits.RotateLeft32 -/
noncomputable def bits_RotateLeft32_T (N : Nat) (t0 : Int) (t1 : Int) : Tree Int :=
  let v1 : Int := (IntKind.u64.wrap t1)
  let v2 : Int := (IntKind.u64.wrap (((BitVec.ofInt 64 v1) &&& (BitVec.ofInt 64 31)).toNat : Int))
  .br (!ltI v2 0) (
  let v3 : Int := (IntKind.u32.wrap (t0 * 2 ^ (min v2.toNat 32)))
  let v4 : Int := (IntKind.u64.wrap (32 - v2))
  .br (!ltI v4 0) (
  let v5 : Int := (t0.fdiv (2 ^ (min v4.toNat 32)))
  let v6 : Int := (IntKind.u32.wrap (((BitVec.ofInt 32 v3) ||| (BitVec.ofInt 32 v5)).toNat : Int))
  .ret v6) .fail) .fail
noncomputable def bits_RotateLeft32 (N : Nat) (t0 : Int) (t1 : Int) : Option Int := (bits_RotateLeft32_T N t0 t1).run some
/-! ### bauta/word.Rot -/
noncomputable def word_Rot_T (N : Nat) (t0 : Int) (t1 : Int) : Tree Int :=
  let v1 : Int := (t1.tmod 32)
  let v2 : Int := (IntKind.i64.wrap v1)
  .call (bits_RotateLeft32 N t0 v2) fun y3 => (
  .ret y3)
noncomputable def word_Rot (N : Nat) (t0 : Int) (t1 : Int) : Option Int := (word_Rot_T N t0 t1).run some
/-! ### bauta/word.Shift -/
noncomputable def word_Shift_j3_T (N : Nat) (t0 : Int) (t1 : Int) (t2 : Int) : Tree (Int × Bool) :=
  let v1 : Bool := (t0 == 0)
  .br v1 (
    .br (!ltI t2 0) (
    let v2 : Int := (IntKind.u32.wrap (t1 * 2 ^ (min t2.toNat 32)))
    let v3 : Bool := (leI t2 32)
    .br v3 (
      let v4 : Int := (IntKind.u32.wrap (32 - t2))
      .br (!ltI v4 0) (
      let v5 : Int := (t1.fdiv (2 ^ (min v4.toNat 32)))
      let v6 : Int := (IntKind.u32.wrap (((BitVec.ofInt 32 v5) &&& (BitVec.ofInt 32 1)).toNat : Int))
      let v7 : Bool := (v6 == 1)
      .ret (v2, v7)) .fail) (
      .ret (v2, false))) .fail) (
    let v8 : Bool := (t0 == 1)
    .br v8 (
      .br (!ltI t2 0) (
      let v9 : Int := (t1.fdiv (2 ^ (min t2.toNat 32)))
      let v10 : Bool := (leI t2 32)
      .br v10 (
        let v11 : Int := (IntKind.u32.wrap (t2 - 1))
        .br (!ltI v11 0) (
        let v12 : Int := (t1.fdiv (2 ^ (min v11.toNat 32)))
        let v13 : Int := (IntKind.u32.wrap (((BitVec.ofInt 32 v12) &&& (BitVec.ofInt 32 1)).toNat : Int))
        let v14 : Bool := (v13 == 1)
        .ret (v9, v14)) .fail) (
        .ret (v9, false))) .fail) (
      let v15 : Bool := (t0 == 2)
      .br v15 (
        let v16 : Int := (if 32 < t2 then 32 else t2)
        let v17 : Int := (IntKind.i32.wrap t1)
        .br (!ltI v16 0) (
        let v18 : Int := (v17.fdiv (2 ^ (min v16.toNat 32)))
        let v19 : Int := (IntKind.u32.wrap v18)
        let v20 : Int := (IntKind.i32.wrap t1)
        let v21 : Int := (IntKind.u32.wrap (v16 - 1))
        .br (!ltI v21 0) (
        let v22 : Int := (v20.fdiv (2 ^ (min v21.toNat 32)))
        let v23 : Int := (IntKind.u32.wrap v22)
        let v24 : Int := (IntKind.u32.wrap (((BitVec.ofInt 32 v23) &&& (BitVec.ofInt 32 1)).toNat : Int))
        let v25 : Bool := (v24 == 1)
        .ret (v19, v25)) .fail) .fail) (
        let v26 : Bool := (t0 == 3)
        .br v26 (
          let v27 : Int := (t2.tmod 32)
          let v28 : Int := (IntKind.i64.wrap v27)
          let v29 : Int := (IntKind.i64.wrap (0 - v28))
          .call (bits_RotateLeft32 N t1 v29) fun y30 => (
          let v31 : Int := (IntKind.u32.wrap (((BitVec.ofInt 32 y30) &&& (BitVec.ofInt 32 2147483648)).toNat : Int))
          let v32 : Bool := (v31 != 0)
          .ret (y30, v32))) (
          .ret (0, false)))))
noncomputable def word_Shift_j3 (N : Nat) (t0 : Int) (t1 : Int) (t2 : Int) : Option (Int × Bool) := (word_Shift_j3_T N t0 t1 t2).run some
noncomputable def word_Shift_T (N : Nat) (t0 : Int) (t1 : Int) (t2 : Int) (t3 : Bool) : Tree (Int × Bool) :=
  let v1 : Bool := (t2 == 0)
  .br v1 (
    let v2 : Bool := (leI 0 t0)
    .br v2 (
      let v3 : Bool := (leI t0 3)
      .br v3 (
        .ret (t1, t3)) (
        .call (word_Shift_j3 N t0 t1 t2) fun y4 => (
        .ret (y4.1, y4.2)))) (
      .call (word_Shift_j3 N t0 t1 t2) fun y5 => (
      .ret (y5.1, y5.2)))) (
    .call (word_Shift_j3 N t0 t1 t2) fun y6 => (
    .ret (y6.1, y6.2)))
noncomputable def word_Shift (N : Nat) (t0 : Int) (t1 : Int) (t2 : Int) (t3 : Bool) : Option (Int × Bool) := (word_Shift_T N t0 t1 t2 t3).run some
/-! ### (*bauta/fold.maker).shift -/
noncomputable def fold_maker_shift_T (N : Nat) (t1a : Int) (t1d : Int) (t2 : Int) (r1 : (List ((Int × (Int × (Int × (Int × Bool)))) × Int))) (r2 : (List (Int × (Int × (Int × (Int × Bool)))))) : Tree (Int × (List ((Int × (Int × (Int × (Int × Bool)))) × Int)) × (List (Int × (Int × (Int × (Int × Bool)))))) :=
  .call (fold_maker_number N t2 r2) fun y1 => (
  let v2 : Bool := (t1d == 0)
  .br v2 (
    .ret (t2, r1, r2)) (
    let v3 : Bool := (!y1.2)
    .br v3 (
      .call (fold_maker_add N t1a t2 0 t1d r1 r2) fun y4 => (
      .ret (y4.1, y4.2.1, y4.2.2))) (
      let v5 : Bool := (t1a == 8)
      .br v5 (
        .call (word_Rot N y1.1 t1d) fun y6 => (
        .call (fold_maker_constant N y6 r1 r2) fun y7 => (
        .ret (y7.1, y7.2.1, y7.2.2)))) (
        let v8 : Int := (IntKind.i64.wrap (t1a - 6))
        .call (word_Shift N v8 y1.1 t1d false) fun y9 => (
        .call (fold_maker_constant N y9.1 r1 r2) fun y10 => (
        .ret (y10.1, y10.2.1, y10.2.2)))))))
noncomputable def fold_maker_shift (N : Nat) (t1a : Int) (t1d : Int) (t2 : Int) (r1 : (List ((Int × (Int × (Int × (Int × Bool)))) × Int))) (r2 : (List (Int × (Int × (Int × (Int × Bool)))))) : Option (Int × (List ((Int × (Int × (Int × (Int × Bool)))) × Int)) × (List (Int × (Int × (Int × (Int × Bool)))))) := (fold_maker_shift_T N t1a t1d t2 r1 r2).run some
/-! ### (*bauta/fold.maker).gate -/
noncomputable def fold_maker_gate_j11_T (N : Nat) (t2 : (List Int)) (t46 : Bool) (r1 : (List ((Int × (Int × (Int × (Int × Bool)))) × Int))) (r2a : Int) (r2b : Int) (r2d : Int) (r3 : (List (Int × (Int × (Int × (Int × Bool)))))) : Tree ((Int × (List ((Int × (Int × (Int × (Int × Bool)))) × Int)) × (List (Int × (Int × (Int × (Int × Bool)))))) ⊕ Unit) :=
  .br t46 (
    .br (inRange r2b t2.length) (
    let v1 : Int := (t2.getD r2b.toNat 0)
    .call (fold_maker_shift N r2a r2d v1 r1 r3) fun y2 => (
    .ret (.inl (y2.1, y2.2.1, y2.2.2)))) .fail) (
    .ret (.inr ()))
noncomputable def fold_maker_gate_j11 (N : Nat) (t2 : (List Int)) (t46 : Bool) (r1 : (List ((Int × (Int × (Int × (Int × Bool)))) × Int))) (r2a : Int) (r2b : Int) (r2d : Int) (r3 : (List (Int × (Int × (Int × (Int × Bool)))))) : Option ((Int × (List ((Int × (Int × (Int × (Int × Bool)))) × Int)) × (List (Int × (Int × (Int × (Int × Bool)))))) ⊕ Unit) := (fold_maker_gate_j11_T N t2 t46 r1 r2a r2b r2d r3).run some
noncomputable def fold_maker_gate_T (N : Nat) (t1a : Int) (t1b : Int) (t1c : Int) (t1d : Int) (t2 : (List Int)) (r1 : (List ((Int × (Int × (Int × (Int × Bool)))) × Int))) (r2 : (List (Int × (Int × (Int × (Int × Bool)))))) : Tree (Int × (List ((Int × (Int × (Int × (Int × Bool)))) × Int)) × (List (Int × (Int × (Int × (Int × Bool)))))) :=
  let v1 : Bool := (t1a == 3)
  .br v1 (
    .br (inRange t1b t2.length) (
    let v2 : Int := (t2.getD t1b.toNat 0)
    .br (inRange t1c t2.length) (
    let v3 : Int := (t2.getD t1c.toNat 0)
    .call (fold_maker_and N v2 v3 r1 r2) fun y4 => (
    .ret (y4.1, y4.2.1, y4.2.2))) .fail) .fail) (
    let v5 : Bool := (t1a == 4)
    .br v5 (
      .br (inRange t1b t2.length) (
      let v6 : Int := (t2.getD t1b.toNat 0)
      .br (inRange t1c t2.length) (
      let v7 : Int := (t2.getD t1c.toNat 0)
      .call (fold_maker_xor N v6 v7 r1 r2) fun y8 => (
      .ret (y8.1, y8.2.1, y8.2.2))) .fail) .fail) (
      let v9 : Bool := (t1a == 5)
      .br v9 (
        .br (inRange t1b t2.length) (
        let v10 : Int := (t2.getD t1b.toNat 0)
        .call (fold_maker_not N v10 r1 r2) fun y11 => (
        .ret (y11.1, y11.2.1, y11.2.2))) .fail) (
        let v12 : Bool := (t1a == 6)
        .br v12 (
          .call (fold_maker_gate_j11 N t2 v12 r1 t1a t1b t1d r2) fun y13 => (
          .alt y13 (fun y14 => (
            .ret (y14.1, y14.2.1, y14.2.2))) (fun y15 => (
            .call (fold_maker_add N t1a t1b t1c t1d r1 r2) fun y16 => (
            .ret (y16.1, y16.2.1, y16.2.2)))))) (
          let v17 : Bool := (t1a == 7)
          .br v17 (
            .call (fold_maker_gate_j11 N t2 v17 r1 t1a t1b t1d r2) fun y18 => (
            .alt y18 (fun y19 => (
              .ret (y19.1, y19.2.1, y19.2.2))) (fun y20 => (
              .call (fold_maker_add N t1a t1b t1c t1d r1 r2) fun y21 => (
              .ret (y21.1, y21.2.1, y21.2.2)))))) (
            let v22 : Bool := (t1a == 8)
            .call (fold_maker_gate_j11 N t2 v22 r1 t1a t1b t1d r2) fun y23 => (
            .alt y23 (fun y24 => (
              .ret (y24.1, y24.2.1, y24.2.2))) (fun y25 => (
              .call (fold_maker_add N t1a t1b t1c t1d r1 r2) fun y26 => (
              .ret (y26.1, y26.2.1, y26.2.2))))))))))
noncomputable def fold_maker_gate (N : Nat) (t1a : Int) (t1b : Int) (t1c : Int) (t1d : Int) (t2 : (List Int)) (r1 : (List ((Int × (Int × (Int × (Int × Bool)))) × Int))) (r2 : (List (Int × (Int × (Int × (Int × Bool)))))) : Option (Int × (List ((Int × (Int × (Int × (Int × Bool)))) × Int)) × (List (Int × (Int × (Int × (Int × Bool)))))) := (fold_maker_gate_T N t1a t1b t1c t1d t2 r1 r2).run some
/-! ### slices.Backward[[]bauta/api.Gate,bauta/api.Gate] -/
noncomputable def slices_Backward_T (N : Nat) : Tree Unit :=
  .ret ()
noncomputable def slices_Backward (N : Nat) : Option Unit := (slices_Backward_T N).run some
/-! ### bauta/fold.used.round8 -/
noncomputable def fold_used_round8_j13_T (N : Nat) (t6 : Int) (r2a : Int) (r2c : Int) (r3 : (List Bool)) : Tree (List Bool) :=
  .br (inRange t6 r3.length) (
  let v1 : Bool := (r3.getD t6.toNat false)
  .br v1 (
    .call (fold_both N r2a) fun y2 => (
    .br y2 (
      .br (inRange r2c r3.length) (
      let v3 : (List Bool) := (r3.set r2c.toNat true)
      .ret v3) .fail) (
      .ret r3))) (
    .ret r3)) .fail
noncomputable def fold_used_round8_j13 (N : Nat) (t6 : Int) (r2a : Int) (r2c : Int) (r3 : (List Bool)) : Option (List Bool) := (fold_used_round8_j13_T N t6 r2a r2c r3).run some
noncomputable def fold_used_round8_j11_T (N : Nat) (t6 : Int) (r2a : Int) (r2b : Int) (r2c : Int) (r3 : (List Bool)) : Tree (List Bool) :=
  .br (inRange t6 r3.length) (
  let v1 : Bool := (r3.getD t6.toNat false)
  .br v1 (
    .call (fold_one N r2a) fun y2 => (
    .br y2 (
      .br (inRange r2b r3.length) (
      let v3 : (List Bool) := (r3.set r2b.toNat true)
      .call (fold_used_round8_j13 N t6 r2a r2c v3) fun y4 => (
      .ret y4)) .fail) (
      .call (fold_both N r2a) fun y5 => (
      .br y5 (
        .br (inRange r2b r3.length) (
        let v6 : (List Bool) := (r3.set r2b.toNat true)
        .call (fold_used_round8_j13 N t6 r2a r2c v6) fun y7 => (
        .ret y7)) .fail) (
        .call (fold_used_round8_j13 N t6 r2a r2c r3) fun y8 => (
        .ret y8)))))) (
    .call (fold_used_round8_j13 N t6 r2a r2c r3) fun y9 => (
    .ret y9))) .fail
noncomputable def fold_used_round8_j11 (N : Nat) (t6 : Int) (r2a : Int) (r2b : Int) (r2c : Int) (r3 : (List Bool)) : Option (List Bool) := (fold_used_round8_j11_T N t6 r2a r2b r2c r3).run some
noncomputable def fold_used_round8_T (N : Nat) (t0 : Int) (t1a : Int) (t1b : Int) (t1c : Int) (r2 : (List Bool)) : Tree (List Bool) :=
  .br (inRange t0 r2.length) (
  let v1 : Bool := (r2.getD t0.toNat false)
  .br v1 (
    .br (inRange t0 r2.length) (
    let v2 : (List Bool) := (r2.set t0.toNat true)
    .call (fold_used_round8_j11 N t0 t1a t1b t1c v2) fun y3 => (
    .ret y3)) .fail) (
    .call (fold_input N t1a) fun y4 => (
    .br (inRange t0 r2.length) (
    let v5 : (List Bool) := (r2.set t0.toNat y4)
    .call (fold_used_round8_j11 N t0 t1a t1b t1c v5) fun y6 => (
    .ret y6)) .fail))) .fail
noncomputable def fold_used_round8 (N : Nat) (t0 : Int) (t1a : Int) (t1b : Int) (t1c : Int) (r2 : (List Bool)) : Option (List Bool) := (fold_used_round8_T N t0 t1a t1b t1c r2).run some
/-! ### slices.Backward[[]bauta/api.Gate,bauta/api.Gate]$1 -/
noncomputable def slices_Backward_1_l1_T (N : Nat) (r1 : (List (Int × (Int × (Int × (Int × Bool)))))) (t3 : Int) (r3 : (List Bool)) : Tree ((Int × (List Bool)) ⊕ (List Bool)) :=
  let v1 : Bool := (leI 0 t3)
  .br v1 (
    .br (inRange t3 r1.length) (
    let v2 : (Int × (Int × (Int × (Int × Bool)))) := (r1.getD t3.toNat (0, (0, (0, (0, false)))))
    .call (fold_used_round8 N t3 v2.1 v2.2.1 v2.2.2.1 r3) fun y3 => (
    let v4 : Int := (IntKind.i64.wrap (t3 - 1))
    .ret (.inl (v4, y3)))) .fail) (
    .ret (.inr r3))
noncomputable def slices_Backward_1_l1 (N : Nat) (r1 : (List (Int × (Int × (Int × (Int × Bool)))))) (v : (Int × (List Bool))) : Option (List Bool) := loopN (fun v => slices_Backward_1_l1_T N r1 v.1 v.2) N v
noncomputable def slices_Backward_1_T (N : Nat) (r1 : (List (Int × (Int × (Int × (Int × Bool)))))) (r3 : (List Bool)) : Tree (List Bool) :=
  let v1 : Int := (r1.length : Int)
  let v2 : Int := (IntKind.i64.wrap (v1 - 1))
  .call (slices_Backward_1_l1 N r1 (v2, r3)) fun y3 => (
  .ret y3)
noncomputable def slices_Backward_1 (N : Nat) (r1 : (List (Int × (Int × (Int × (Int × Bool)))))) (r3 : (List Bool)) : Option (List Bool) := (slices_Backward_1_T N r1 r3).run some
/-! ### bauta/fold.used -/
noncomputable def fold_used_l3_T (N : Nat) (t13 : (List (ByteArray × Int))) (t14 : Int) (t15 : Int) (r2 : (List Bool)) : Tree ((Int × (List Bool)) ⊕ (List Bool)) :=
  let v1 : Bool := (ltI t15 t14)
  .br v1 (
    .br (inRange t15 t13.length) (
    let v2 : (ByteArray × Int) := (t13.getD t15.toNat (ByteArray.empty, 0))
    .br (inRange v2.2 r2.length) (
    let v3 : (List Bool) := (r2.set v2.2.toNat true)
    let v4 : Int := (IntKind.i64.wrap (t15 + 1))
    .ret (.inl (v4, v3))) .fail) .fail) (
    .ret (.inr r2))
noncomputable def fold_used_l3 (N : Nat) (t13 : (List (ByteArray × Int))) (t14 : Int) (v : (Int × (List Bool))) : Option (List Bool) := loopN (fun v => fold_used_l3_T N t13 t14 v.1 v.2) N v
noncomputable def fold_used_T (N : Nat) (t0a : (List (Int × (Int × (Int × (Int × Bool)))))) (t0d : (List (ByteArray × Int))) : Tree (List Bool) :=
  let v1 : Int := (t0a.length : Int)
  .br (leI 0 v1 && (leI v1 v1 && (ltI (v1 * 1) 140737488355328 && ltI v1 140737488355328))) (
  let v2 : (List Bool) := (List.replicate v1.toNat false)
  let v3 : Int := (t0d.length : Int)
  .call (fold_used_l3 N t0d v3 (0, v2)) fun y4 => (
  .call (slices_Backward N) fun y5 => (
  .call (slices_Backward_1 N t0a y4) fun y6 => (
  .ret y6)))) .fail
noncomputable def fold_used (N : Nat) (t0a : (List (Int × (Int × (Int × (Int × Bool)))))) (t0d : (List (ByteArray × Int))) : Option (List Bool) := (fold_used_T N t0a t0d).run some
/-! ### bauta/fold.live -/
noncomputable def fold_live_j12_T (N : Nat) (t6 : Int) (r3 : (List Int)) (r5a : Int) (r5b : Int) (r5c : Int) (r5d : Int) (r5e : Bool) (r8 : (List (Int × (Int × (Int × (Int × Bool)))))) : Tree ((List Int) × (List (Int × (Int × (Int × (Int × Bool)))))) :=
  let v1 : Int := (r8.length : Int)
  .br (inRange t6 r3.length) (
  let v2 : (List Int) := (r3.set t6.toNat v1)
  .br (ltI (((r8.length : Int) + 1) * 32) 140737488355328) (
  let v3 : (List (Int × (Int × (Int × (Int × Bool))))) := (r8 ++ [(r5a, (r5b, (r5c, (r5d, r5e))))])
  .ret (v2, v3)) .fail) .fail
noncomputable def fold_live_j12 (N : Nat) (t6 : Int) (r3 : (List Int)) (r5a : Int) (r5b : Int) (r5c : Int) (r5d : Int) (r5e : Bool) (r8 : (List (Int × (Int × (Int × (Int × Bool)))))) : Option ((List Int) × (List (Int × (Int × (Int × (Int × Bool)))))) := (fold_live_j12_T N t6 r3 r5a r5b r5c r5d r5e r8).run some
noncomputable def fold_live_j10_T (N : Nat) (t6 : Int) (r3 : (List Int)) (r5a : Int) (r5b : Int) (r5c : Int) (r5d : Int) (r5e : Bool) (r8 : (List (Int × (Int × (Int × (Int × Bool)))))) : Tree ((List Int) × (List (Int × (Int × (Int × (Int × Bool)))))) :=
  .call (fold_both N r5a) fun y1 => (
  .br y1 (
    .br (inRange r5c r3.length) (
    let v2 : Int := (r3.getD r5c.toNat 0)
    .call (fold_live_j12 N t6 r3 r5a r5b v2 r5d r5e r8) fun y3 => (
    .ret (y3.1, y3.2))) .fail) (
    .call (fold_live_j12 N t6 r3 r5a r5b r5c r5d r5e r8) fun y4 => (
    .ret (y4.1, y4.2))))
noncomputable def fold_live_j10 (N : Nat) (t6 : Int) (r3 : (List Int)) (r5a : Int) (r5b : Int) (r5c : Int) (r5d : Int) (r5e : Bool) (r8 : (List (Int × (Int × (Int × (Int × Bool)))))) : Option ((List Int) × (List (Int × (Int × (Int × (Int × Bool)))))) := (fold_live_j10_T N t6 r3 r5a r5b r5c r5d r5e r8).run some
noncomputable def fold_live_l5_T (N : Nat) (t22 : (List (Int × (Int × (Int × (Int × Bool)))))) (t23 : Int) (r4 : (List Bool)) (t24 : Int) (r3 : (List Int)) (r7 : (List (Int × (Int × (Int × (Int × Bool)))))) : Tree ((Int × (List Int) × (List (Int × (Int × (Int × (Int × Bool)))))) ⊕ ((List Int) × (List (Int × (Int × (Int × (Int × Bool))))))) :=
  let v1 : Bool := (ltI t24 t23)
  .br v1 (
    .br (inRange t24 t22.length) (
    let v2 : (Int × (Int × (Int × (Int × Bool)))) := (t22.getD t24.toNat (0, (0, (0, (0, false)))))
    .br (inRange t24 r4.length) (
    let v3 : Bool := (r4.getD t24.toNat false)
    let v4 : Bool := (!v3)
    .br v4 (
      let v5 : Int := (IntKind.i64.wrap (t24 + 1))
      .ret (.inl (v5, r3, r7))) (
      .call (fold_one N v2.1) fun y6 => (
      .br y6 (
        .br (inRange v2.2.1 r3.length) (
        let v7 : Int := (r3.getD v2.2.1.toNat 0)
        .call (fold_live_j10 N t24 r3 v2.1 v7 v2.2.2.1 v2.2.2.2.1 v2.2.2.2.2 r7) fun y8 => (
        let v9 : Int := (IntKind.i64.wrap (t24 + 1))
        .ret (.inl (v9, y8.1, y8.2)))) .fail) (
        .call (fold_both N v2.1) fun y10 => (
        .br y10 (
          .br (inRange v2.2.1 r3.length) (
          let v11 : Int := (r3.getD v2.2.1.toNat 0)
          .call (fold_live_j10 N t24 r3 v2.1 v11 v2.2.2.1 v2.2.2.2.1 v2.2.2.2.2 r7) fun y12 => (
          let v13 : Int := (IntKind.i64.wrap (t24 + 1))
          .ret (.inl (v13, y12.1, y12.2)))) .fail) (
          .call (fold_live_j10 N t24 r3 v2.1 v2.2.1 v2.2.2.1 v2.2.2.2.1 v2.2.2.2.2 r7) fun y14 => (
          let v15 : Int := (IntKind.i64.wrap (t24 + 1))
          .ret (.inl (v15, y14.1, y14.2))))))))) .fail) .fail) (
    .ret (.inr (r3, r7)))
noncomputable def fold_live_l5 (N : Nat) (t22 : (List (Int × (Int × (Int × (Int × Bool)))))) (t23 : Int) (r4 : (List Bool)) (v : (Int × (List Int) × (List (Int × (Int × (Int × (Int × Bool))))))) : Option ((List Int) × (List (Int × (Int × (Int × (Int × Bool)))))) := loopN (fun v => fold_live_l5_T N t22 t23 r4 v.1 v.2.1 v.2.2) N v
noncomputable def fold_live_l16_T (N : Nat) (t68 : (List (ByteArray × Int))) (t69 : Int) (r2 : (List Int)) (t70 : Int) (r6 : (List (ByteArray × Int))) : Tree ((Int × (List (ByteArray × Int))) ⊕ (List (ByteArray × Int))) :=
  let v1 : Bool := (ltI t70 t69)
  .br v1 (
    .br (inRange t70 t68.length) (
    let v2 : (ByteArray × Int) := (t68.getD t70.toNat (ByteArray.empty, 0))
    .br (inRange v2.2 r2.length) (
    let v3 : Int := (r2.getD v2.2.toNat 0)
    .br (ltI (((r6.length : Int) + 1) * 24) 140737488355328) (
    let v4 : (List (ByteArray × Int)) := (r6 ++ [(v2.1, v3)])
    let v5 : Int := (IntKind.i64.wrap (t70 + 1))
    .ret (.inl (v5, v4))) .fail) .fail) .fail) (
    .ret (.inr r6))
noncomputable def fold_live_l16 (N : Nat) (t68 : (List (ByteArray × Int))) (t69 : Int) (r2 : (List Int)) (v : (Int × (List (ByteArray × Int)))) : Option (List (ByteArray × Int)) := loopN (fun v => fold_live_l16_T N t68 t69 r2 v.1 v.2) N v
noncomputable def fold_live_T (N : Nat) (t0a : (List (Int × (Int × (Int × (Int × Bool)))))) (t0d : (List (ByteArray × Int))) : Tree ((List (Int × (Int × (Int × (Int × Bool))))) × (List (ByteArray × Int))) :=
  let v1 : Int := (t0a.length : Int)
  .br (leI 0 v1 && (leI v1 v1 && (ltI (v1 * 8) 140737488355328 && ltI v1 140737488355328))) (
  let v2 : (List Int) := (List.replicate v1.toNat 0)
  .call (fold_used N t0a t0d) fun y3 => (
  let v4 : Int := (t0a.length : Int)
  .call (fold_live_l5 N t0a v4 y3 (0, v2, [])) fun y5 => (
  let v6 : Int := (t0d.length : Int)
  .call (fold_live_l16 N t0d v6 y5.1 (0, [])) fun y7 => (
  .ret (y5.2, y7))))) .fail
noncomputable def fold_live (N : Nat) (t0a : (List (Int × (Int × (Int × (Int × Bool)))))) (t0d : (List (ByteArray × Int))) : Option ((List (Int × (Int × (Int × (Int × Bool))))) × (List (ByteArray × Int))) := (fold_live_T N t0a t0d).run some
/-! ### bauta/fold.once -/
noncomputable def fold_once_l4_T (N : Nat) (t18 : (List (Int × (Int × (Int × (Int × Bool)))))) (t19 : Int) (t20 : Int) (r3 : (List Int)) (r6 : (List (Int × (Int × (Int × (Int × Bool)))))) (r8 : (List ((Int × (Int × (Int × (Int × Bool)))) × Int))) : Tree ((Int × (List Int) × (List (Int × (Int × (Int × (Int × Bool))))) × (List ((Int × (Int × (Int × (Int × Bool)))) × Int))) ⊕ ((List Int) × (List (Int × (Int × (Int × (Int × Bool))))) × (List ((Int × (Int × (Int × (Int × Bool)))) × Int)))) :=
  let v1 : Bool := (ltI t20 t19)
  .br v1 (
    .br (inRange t20 t18.length) (
    let v2 : (Int × (Int × (Int × (Int × Bool)))) := (t18.getD t20.toNat (0, (0, (0, (0, false)))))
    .call (fold_maker_gate N v2.1 v2.2.1 v2.2.2.1 v2.2.2.2.1 r3 r8 r6) fun y3 => (
    .br (ltI (((r3.length : Int) + 1) * 8) 140737488355328) (
    let v4 : (List Int) := (r3 ++ [y3.1])
    let v5 : Int := (IntKind.i64.wrap (t20 + 1))
    .ret (.inl (v5, v4, y3.2.2, y3.2.1))) .fail)) .fail) (
    .ret (.inr (r3, r6, r8)))
noncomputable def fold_once_l4 (N : Nat) (t18 : (List (Int × (Int × (Int × (Int × Bool)))))) (t19 : Int) (v : (Int × (List Int) × (List (Int × (Int × (Int × (Int × Bool))))) × (List ((Int × (Int × (Int × (Int × Bool)))) × Int)))) : Option ((List Int) × (List (Int × (Int × (Int × (Int × Bool))))) × (List ((Int × (Int × (Int × (Int × Bool)))) × Int))) := loopN (fun v => fold_once_l4_T N t18 t19 v.1 v.2.1 v.2.2.1 v.2.2.2) N v
noncomputable def fold_once_l9_T (N : Nat) (t33 : (List (ByteArray × Int))) (t34 : Int) (r2 : (List Int)) (t35 : Int) (r6 : (List (ByteArray × Int))) : Tree ((Int × (List (ByteArray × Int))) ⊕ (List (ByteArray × Int))) :=
  let v1 : Bool := (ltI t35 t34)
  .br v1 (
    .br (inRange t35 t33.length) (
    let v2 : (ByteArray × Int) := (t33.getD t35.toNat (ByteArray.empty, 0))
    .br (inRange v2.2 r2.length) (
    let v3 : Int := (r2.getD v2.2.toNat 0)
    .br (ltI (((r6.length : Int) + 1) * 24) 140737488355328) (
    let v4 : (List (ByteArray × Int)) := (r6 ++ [(v2.1, v3)])
    let v5 : Int := (IntKind.i64.wrap (t35 + 1))
    .ret (.inl (v5, v4))) .fail) .fail) .fail) (
    .ret (.inr r6))
noncomputable def fold_once_l9 (N : Nat) (t33 : (List (ByteArray × Int))) (t34 : Int) (r2 : (List Int)) (v : (Int × (List (ByteArray × Int)))) : Option (List (ByteArray × Int)) := loopN (fun v => fold_once_l9_T N t33 t34 r2 v.1 v.2) N v
noncomputable def fold_once_T (N : Nat) (t0a : (List (Int × (Int × (Int × (Int × Bool)))))) (t0d : (List (ByteArray × Int))) : Tree ((List (Int × (Int × (Int × (Int × Bool))))) × (List (ByteArray × Int))) :=
  let v1 : Int := (t0a.length : Int)
  .call (fold_once_l4 N t0a v1 (0, [], [], [])) fun y2 => (
  let v3 : Int := (t0d.length : Int)
  .call (fold_once_l9 N t0d v3 y2.1 (0, [])) fun y4 => (
  .call (fold_live N y2.2.1 y4) fun y5 => (
  .ret (y5.1, y5.2))))
noncomputable def fold_once (N : Nat) (t0a : (List (Int × (Int × (Int × (Int × Bool)))))) (t0d : (List (ByteArray × Int))) : Option ((List (Int × (Int × (Int × (Int × Bool))))) × (List (ByteArray × Int))) := (fold_once_T N t0a t0d).run some
/-! ### slices.Equal[[]bauta/api.Gate,bauta/api.Gate] -/
noncomputable def slices_Equal_l4_T (N : Nat) (t0 : (List (Int × (Int × (Int × (Int × Bool)))))) (t1 : (List (Int × (Int × (Int × (Int × Bool)))))) (t12 : Int) (t13 : Int) : Tree (Int ⊕ (Unit ⊕ Unit)) :=
  let v1 : Bool := (ltI t13 t12)
  .br v1 (
    .br (inRange t13 t0.length) (
    let v2 : (Int × (Int × (Int × (Int × Bool)))) := (t0.getD t13.toNat (0, (0, (0, (0, false)))))
    .br (inRange t13 t1.length) (
    let v3 : (Int × (Int × (Int × (Int × Bool)))) := (t1.getD t13.toNat (0, (0, (0, (0, false)))))
    let v4 : Bool := (!((v2.1 == v3.1) && ((v2.2.1 == v3.2.1) && ((v2.2.2.1 == v3.2.2.1) && ((v2.2.2.2.1 == v3.2.2.2.1) && (v2.2.2.2.2 == v3.2.2.2.2))))))
    .br v4 (
      .ret (.inr (.inl ()))) (
      let v5 : Int := (IntKind.i64.wrap (t13 + 1))
      .ret (.inl v5))) .fail) .fail) (
    .ret (.inr (.inr ())))
noncomputable def slices_Equal_l4 (N : Nat) (t0 : (List (Int × (Int × (Int × (Int × Bool)))))) (t1 : (List (Int × (Int × (Int × (Int × Bool)))))) (t12 : Int) (v : Int) : Option (Unit ⊕ Unit) := loopN (fun v => slices_Equal_l4_T N t0 t1 t12 v) N v
noncomputable def slices_Equal_T (N : Nat) (t0 : (List (Int × (Int × (Int × (Int × Bool)))))) (t1 : (List (Int × (Int × (Int × (Int × Bool)))))) : Tree Bool :=
  let v1 : Int := (t0.length : Int)
  let v2 : Int := (t1.length : Int)
  let v3 : Bool := (v1 != v2)
  .br v3 (
    .ret false) (
    let v4 : Int := (t0.length : Int)
    .call (slices_Equal_l4 N t0 t1 v4 0) fun y5 => (
    .alt y5 (fun y6 => (
      .ret false)) (fun y7 => (
      .ret true))))
noncomputable def slices_Equal (N : Nat) (t0 : (List (Int × (Int × (Int × (Int × Bool)))))) (t1 : (List (Int × (Int × (Int × (Int × Bool)))))) : Option Bool := (slices_Equal_T N t0 t1).run some
/-! ### bauta/fold.Circuit -/
noncomputable def fold_Circuit_l3_T (N : Nat) (r0a : (List (Int × (Int × (Int × (Int × Bool)))))) (r0d : (List (ByteArray × Int))) : Tree (((List (Int × (Int × (Int × (Int × Bool))))) × (List (ByteArray × Int))) ⊕ ((List (Int × (Int × (Int × (Int × Bool))))) × (List (ByteArray × Int)))) :=
  .call (fold_once N r0a r0d) fun y1 => (
  .call (slices_Equal N y1.1 r0a) fun y2 => (
  .br y2 (
    .ret (.inr (y1.1, y1.2))) (
    .ret (.inl (y1.1, y1.2)))))
noncomputable def fold_Circuit_l3 (N : Nat) (v : ((List (Int × (Int × (Int × (Int × Bool))))) × (List (ByteArray × Int)))) : Option ((List (Int × (Int × (Int × (Int × Bool))))) × (List (ByteArray × Int))) := loopN (fun v => fold_Circuit_l3_T N v.1 v.2) N v
noncomputable def fold_Circuit_j3_T (N : Nat) (r0a : (List (Int × (Int × (Int × (Int × Bool)))))) (r0d : (List (ByteArray × Int))) : Tree ((List (Int × (Int × (Int × (Int × Bool))))) × (List (ByteArray × Int))) :=
  .call (fold_Circuit_l3 N (r0a, r0d)) fun y1 => (
  .ret (y1.1, y1.2))
noncomputable def fold_Circuit_j3 (N : Nat) (r0a : (List (Int × (Int × (Int × (Int × Bool)))))) (r0d : (List (ByteArray × Int))) : Option ((List (Int × (Int × (Int × (Int × Bool))))) × (List (ByteArray × Int))) := (fold_Circuit_j3_T N r0a r0d).run some
noncomputable def fold_Circuit_T (N : Nat) (t0a : (List (Int × (Int × (Int × (Int × Bool)))))) (t0b : Int) (t0c : Int) (t0d : (List (ByteArray × Int))) : Tree ((List (Int × (Int × (Int × (Int × Bool))))) × (List (ByteArray × Int))) :=
  .call (lower_Plain N t0a t0b t0c t0d) fun y1 => (
  let v2 : Bool := (!y1)
  .br v2 (
    .call (fold_own N t0a t0d) fun y3 => (
    .ret (y3.1, y3.2))) (
    .call (fold_twice N t0a) fun y4 => (
    .br y4 (
      .call (fold_own N t0a t0d) fun y5 => (
      .ret (y5.1, y5.2))) (
      .call (fold_Circuit_j3 N t0a t0d) fun y6 => (
      .ret (y6.1, y6.2))))))
noncomputable def fold_Circuit (N : Nat) (t0a : (List (Int × (Int × (Int × (Int × Bool)))))) (t0b : Int) (t0c : Int) (t0d : (List (ByteArray × Int))) : Option ((List (Int × (Int × (Int × (Int × Bool))))) × (List (ByteArray × Int))) := (fold_Circuit_T N t0a t0b t0c t0d).run some
/-! ### bauta/bautalaw17.lives -/
noncomputable def bautalaw17_lives_T (N : Nat) : Tree Bool :=
  .call (fold_Circuit N [(1, (0, (0, (0, true)))), (0, (0, (0, (4294967295, false)))), (3, (0, (1, (0, true)))), (5, (2, (0, (0, true)))), (5, (3, (0, (0, true))))] 1 0 [(ByteArray.empty, 4)]) fun y1 => (
  let v2 : Int := (y1.1.length : Int)
  let v3 : Bool := (v2 == 1)
  .br v3 (
    let v4 : Int := (y1.2.length : Int)
    let v5 : Bool := (v4 == 1)
    .br v5 (
      .br (inRange 0 y1.2.length) (
      let v6 : (ByteArray × Int) := (y1.2.getD 0 (ByteArray.empty, 0))
      let v7 : Bool := (v6.2 == 0)
      .br v7 (
        .br (inRange 0 y1.1.length) (
        let v8 : (Int × (Int × (Int × (Int × Bool)))) := (y1.1.getD 0 (0, (0, (0, (0, false)))))
        let v9 : Bool := ((v8.1 == 1) && ((v8.2.1 == 0) && ((v8.2.2.1 == 0) && ((v8.2.2.2.1 == 0) && (v8.2.2.2.2 == true)))))
        .ret v9) .fail) (
        .ret false)) .fail) (
      .ret false)) (
    .ret false))
noncomputable def bautalaw17_lives (N : Nat) : Option Bool := (bautalaw17_lives_T N).run some
/-! ### bauta/bautaref15.Own -/
noncomputable def bautaref15_Own_T (N : Nat) (t0a : (List (Int × (Int × (Int × (Int × Bool)))))) (t0d : (List (ByteArray × Int))) : Tree Unit :=
  .br (ltI ((0 + (t0a.length : Int)) * 32) 140737488355328) (
  .br (ltI ((0 + (t0d.length : Int)) * 24) 140737488355328) (
  .ret ()) .fail) .fail
noncomputable def bautaref15_Own (N : Nat) (t0a : (List (Int × (Int × (Int × (Int × Bool)))))) (t0d : (List (ByteArray × Int))) : Option Unit := (bautaref15_Own_T N t0a t0d).run some
/-! ### bauta/bautaref15.Takes -/
noncomputable def bautaref15_Takes_j3_T (N : Nat) (t0 : Int) : Tree Int :=
  let v1 : Bool := (leI 5 t0)
  .br v1 (
    let v2 : Bool := (leI t0 8)
    .br v2 (
      .ret 1) (
      .ret 0)) (
    .ret 0)
noncomputable def bautaref15_Takes_j3 (N : Nat) (t0 : Int) : Option Int := (bautaref15_Takes_j3_T N t0).run some
noncomputable def bautaref15_Takes_T (N : Nat) (t0 : Int) : Tree Int :=
  let v1 : Bool := (t0 == 3)
  .br v1 (
    .ret 2) (
    let v2 : Bool := (t0 == 4)
    .br v2 (
      .ret 2) (
      let v3 : Bool := (leI 9 t0)
      .br v3 (
        let v4 : Bool := (leI t0 11)
        .br v4 (
          .ret 2) (
          .call (bautaref15_Takes_j3 N t0) fun y5 => (
          .ret y5))) (
        .call (bautaref15_Takes_j3 N t0) fun y6 => (
        .ret y6))))
noncomputable def bautaref15_Takes (N : Nat) (t0 : Int) : Option Int := (bautaref15_Takes_T N t0).run some
/-! ### bauta/bautaref15.Can -/
noncomputable def bautaref15_Can_j12_T (N : Nat) (t5 : Int) (r0a : (List (Int × (Int × (Int × (Int × Bool)))))) (r1a : Int) (r1b : Int) (r1c : Int) (r1e : Bool) : Tree (Unit ⊕ Unit) :=
  let v1 : Bool := (r1a == 1)
  .br v1 (
    let v2 : Bool := (!(r1e == true))
    .br v2 (
      .ret (.inl ())) (
      .ret (.inr ()))) (
    let v3 : Bool := (ltI 0 t5)
    .br v3 (
      .br (inRange r1b r0a.length) (
      let v4 : (Int × (Int × (Int × (Int × Bool)))) := (r0a.getD r1b.toNat (0, (0, (0, (0, false)))))
      .br v4.2.2.2.2 (
        let v5 : Bool := (!(r1e == true))
        .br v5 (
          .ret (.inl ())) (
          .ret (.inr ()))) (
        let v6 : Bool := (ltI 1 t5)
        .br v6 (
          .br (inRange r1c r0a.length) (
          let v7 : (Int × (Int × (Int × (Int × Bool)))) := (r0a.getD r1c.toNat (0, (0, (0, (0, false)))))
          let v8 : Bool := (!(r1e == v7.2.2.2.2))
          .br v8 (
            .ret (.inl ())) (
            .ret (.inr ()))) .fail) (
          let v9 : Bool := (!(r1e == false))
          .br v9 (
            .ret (.inl ())) (
            .ret (.inr ()))))) .fail) (
      let v10 : Bool := (ltI 1 t5)
      .br v10 (
        .br (inRange r1c r0a.length) (
        let v11 : (Int × (Int × (Int × (Int × Bool)))) := (r0a.getD r1c.toNat (0, (0, (0, (0, false)))))
        let v12 : Bool := (!(r1e == v11.2.2.2.2))
        .br v12 (
          .ret (.inl ())) (
          .ret (.inr ()))) .fail) (
        let v13 : Bool := (!(r1e == false))
        .br v13 (
          .ret (.inl ())) (
          .ret (.inr ())))))
noncomputable def bautaref15_Can_j12 (N : Nat) (t5 : Int) (r0a : (List (Int × (Int × (Int × (Int × Bool)))))) (r1a : Int) (r1b : Int) (r1c : Int) (r1e : Bool) : Option (Unit ⊕ Unit) := (bautaref15_Can_j12_T N t5 r0a r1a r1b r1c r1e).run some
noncomputable def bautaref15_Can_j10_T (N : Nat) (t5 : Int) (r0a : (List (Int × (Int × (Int × (Int × Bool)))))) (r0b : Int) (r0c : Int) (r1a : Int) (r1b : Int) (r1c : Int) (r1d : Int) (r1e : Bool) : Tree (Unit ⊕ Unit) :=
  let v1 : Bool := (r1a == 1)
  .br v1 (
    let v2 : Int := (IntKind.i64.wrap r1d)
    let v3 : Bool := (leI r0b v2)
    .br v3 (
      .ret (.inl ())) (
      let v4 : Bool := (r1a == 2)
      .br v4 (
        let v5 : Int := (IntKind.i64.wrap r1d)
        let v6 : Bool := (leI r0c v5)
        .br v6 (
          .ret (.inl ())) (
          let v7 : Bool := (leI 6 r1a)
          .br v7 (
            let v8 : Bool := (leI r1a 8)
            .br v8 (
              let v9 : Bool := (ltI 31 r1d)
              .br v9 (
                .ret (.inl ())) (
                let v10 : Bool := (leI 3 r1a)
                .br v10 (
                  let v11 : Bool := (leI r1a 5)
                  .br v11 (
                    let v12 : Bool := (r1d != 0)
                    .br v12 (
                      .ret (.inl ())) (
                      .call (bautaref15_Can_j12 N t5 r0a r1a r1b r1c r1e) fun y13 => (
                      .alt y13 (fun y14 => (
                        .ret (.inl ()))) (fun y15 => (
                        .ret (.inr ())))))) (
                    let v16 : Bool := (leI 9 r1a)
                    .br v16 (
                      let v17 : Bool := (r1d != 0)
                      .br v17 (
                        .ret (.inl ())) (
                        .call (bautaref15_Can_j12 N t5 r0a r1a r1b r1c r1e) fun y18 => (
                        .alt y18 (fun y19 => (
                          .ret (.inl ()))) (fun y20 => (
                          .ret (.inr ())))))) (
                      .call (bautaref15_Can_j12 N t5 r0a r1a r1b r1c r1e) fun y21 => (
                      .alt y21 (fun y22 => (
                        .ret (.inl ()))) (fun y23 => (
                        .ret (.inr ()))))))) (
                  let v24 : Bool := (leI 9 r1a)
                  .br v24 (
                    let v25 : Bool := (r1d != 0)
                    .br v25 (
                      .ret (.inl ())) (
                      .call (bautaref15_Can_j12 N t5 r0a r1a r1b r1c r1e) fun y26 => (
                      .alt y26 (fun y27 => (
                        .ret (.inl ()))) (fun y28 => (
                        .ret (.inr ())))))) (
                    .call (bautaref15_Can_j12 N t5 r0a r1a r1b r1c r1e) fun y29 => (
                    .alt y29 (fun y30 => (
                      .ret (.inl ()))) (fun y31 => (
                      .ret (.inr ())))))))) (
              let v32 : Bool := (leI 3 r1a)
              .br v32 (
                let v33 : Bool := (leI r1a 5)
                .br v33 (
                  let v34 : Bool := (r1d != 0)
                  .br v34 (
                    .ret (.inl ())) (
                    .call (bautaref15_Can_j12 N t5 r0a r1a r1b r1c r1e) fun y35 => (
                    .alt y35 (fun y36 => (
                      .ret (.inl ()))) (fun y37 => (
                      .ret (.inr ())))))) (
                  let v38 : Bool := (leI 9 r1a)
                  .br v38 (
                    let v39 : Bool := (r1d != 0)
                    .br v39 (
                      .ret (.inl ())) (
                      .call (bautaref15_Can_j12 N t5 r0a r1a r1b r1c r1e) fun y40 => (
                      .alt y40 (fun y41 => (
                        .ret (.inl ()))) (fun y42 => (
                        .ret (.inr ())))))) (
                    .call (bautaref15_Can_j12 N t5 r0a r1a r1b r1c r1e) fun y43 => (
                    .alt y43 (fun y44 => (
                      .ret (.inl ()))) (fun y45 => (
                      .ret (.inr ()))))))) (
                let v46 : Bool := (leI 9 r1a)
                .br v46 (
                  let v47 : Bool := (r1d != 0)
                  .br v47 (
                    .ret (.inl ())) (
                    .call (bautaref15_Can_j12 N t5 r0a r1a r1b r1c r1e) fun y48 => (
                    .alt y48 (fun y49 => (
                      .ret (.inl ()))) (fun y50 => (
                      .ret (.inr ())))))) (
                  .call (bautaref15_Can_j12 N t5 r0a r1a r1b r1c r1e) fun y51 => (
                  .alt y51 (fun y52 => (
                    .ret (.inl ()))) (fun y53 => (
                    .ret (.inr ())))))))) (
            let v54 : Bool := (leI 3 r1a)
            .br v54 (
              let v55 : Bool := (leI r1a 5)
              .br v55 (
                let v56 : Bool := (r1d != 0)
                .br v56 (
                  .ret (.inl ())) (
                  .call (bautaref15_Can_j12 N t5 r0a r1a r1b r1c r1e) fun y57 => (
                  .alt y57 (fun y58 => (
                    .ret (.inl ()))) (fun y59 => (
                    .ret (.inr ())))))) (
                let v60 : Bool := (leI 9 r1a)
                .br v60 (
                  let v61 : Bool := (r1d != 0)
                  .br v61 (
                    .ret (.inl ())) (
                    .call (bautaref15_Can_j12 N t5 r0a r1a r1b r1c r1e) fun y62 => (
                    .alt y62 (fun y63 => (
                      .ret (.inl ()))) (fun y64 => (
                      .ret (.inr ())))))) (
                  .call (bautaref15_Can_j12 N t5 r0a r1a r1b r1c r1e) fun y65 => (
                  .alt y65 (fun y66 => (
                    .ret (.inl ()))) (fun y67 => (
                    .ret (.inr ()))))))) (
              let v68 : Bool := (leI 9 r1a)
              .br v68 (
                let v69 : Bool := (r1d != 0)
                .br v69 (
                  .ret (.inl ())) (
                  .call (bautaref15_Can_j12 N t5 r0a r1a r1b r1c r1e) fun y70 => (
                  .alt y70 (fun y71 => (
                    .ret (.inl ()))) (fun y72 => (
                    .ret (.inr ())))))) (
                .call (bautaref15_Can_j12 N t5 r0a r1a r1b r1c r1e) fun y73 => (
                .alt y73 (fun y74 => (
                  .ret (.inl ()))) (fun y75 => (
                  .ret (.inr ()))))))))) (
        let v76 : Bool := (leI 6 r1a)
        .br v76 (
          let v77 : Bool := (leI r1a 8)
          .br v77 (
            let v78 : Bool := (ltI 31 r1d)
            .br v78 (
              .ret (.inl ())) (
              let v79 : Bool := (leI 3 r1a)
              .br v79 (
                let v80 : Bool := (leI r1a 5)
                .br v80 (
                  let v81 : Bool := (r1d != 0)
                  .br v81 (
                    .ret (.inl ())) (
                    .call (bautaref15_Can_j12 N t5 r0a r1a r1b r1c r1e) fun y82 => (
                    .alt y82 (fun y83 => (
                      .ret (.inl ()))) (fun y84 => (
                      .ret (.inr ())))))) (
                  let v85 : Bool := (leI 9 r1a)
                  .br v85 (
                    let v86 : Bool := (r1d != 0)
                    .br v86 (
                      .ret (.inl ())) (
                      .call (bautaref15_Can_j12 N t5 r0a r1a r1b r1c r1e) fun y87 => (
                      .alt y87 (fun y88 => (
                        .ret (.inl ()))) (fun y89 => (
                        .ret (.inr ())))))) (
                    .call (bautaref15_Can_j12 N t5 r0a r1a r1b r1c r1e) fun y90 => (
                    .alt y90 (fun y91 => (
                      .ret (.inl ()))) (fun y92 => (
                      .ret (.inr ()))))))) (
                let v93 : Bool := (leI 9 r1a)
                .br v93 (
                  let v94 : Bool := (r1d != 0)
                  .br v94 (
                    .ret (.inl ())) (
                    .call (bautaref15_Can_j12 N t5 r0a r1a r1b r1c r1e) fun y95 => (
                    .alt y95 (fun y96 => (
                      .ret (.inl ()))) (fun y97 => (
                      .ret (.inr ())))))) (
                  .call (bautaref15_Can_j12 N t5 r0a r1a r1b r1c r1e) fun y98 => (
                  .alt y98 (fun y99 => (
                    .ret (.inl ()))) (fun y100 => (
                    .ret (.inr ())))))))) (
            let v101 : Bool := (leI 3 r1a)
            .br v101 (
              let v102 : Bool := (leI r1a 5)
              .br v102 (
                let v103 : Bool := (r1d != 0)
                .br v103 (
                  .ret (.inl ())) (
                  .call (bautaref15_Can_j12 N t5 r0a r1a r1b r1c r1e) fun y104 => (
                  .alt y104 (fun y105 => (
                    .ret (.inl ()))) (fun y106 => (
                    .ret (.inr ())))))) (
                let v107 : Bool := (leI 9 r1a)
                .br v107 (
                  let v108 : Bool := (r1d != 0)
                  .br v108 (
                    .ret (.inl ())) (
                    .call (bautaref15_Can_j12 N t5 r0a r1a r1b r1c r1e) fun y109 => (
                    .alt y109 (fun y110 => (
                      .ret (.inl ()))) (fun y111 => (
                      .ret (.inr ())))))) (
                  .call (bautaref15_Can_j12 N t5 r0a r1a r1b r1c r1e) fun y112 => (
                  .alt y112 (fun y113 => (
                    .ret (.inl ()))) (fun y114 => (
                    .ret (.inr ()))))))) (
              let v115 : Bool := (leI 9 r1a)
              .br v115 (
                let v116 : Bool := (r1d != 0)
                .br v116 (
                  .ret (.inl ())) (
                  .call (bautaref15_Can_j12 N t5 r0a r1a r1b r1c r1e) fun y117 => (
                  .alt y117 (fun y118 => (
                    .ret (.inl ()))) (fun y119 => (
                    .ret (.inr ())))))) (
                .call (bautaref15_Can_j12 N t5 r0a r1a r1b r1c r1e) fun y120 => (
                .alt y120 (fun y121 => (
                  .ret (.inl ()))) (fun y122 => (
                  .ret (.inr ())))))))) (
          let v123 : Bool := (leI 3 r1a)
          .br v123 (
            let v124 : Bool := (leI r1a 5)
            .br v124 (
              let v125 : Bool := (r1d != 0)
              .br v125 (
                .ret (.inl ())) (
                .call (bautaref15_Can_j12 N t5 r0a r1a r1b r1c r1e) fun y126 => (
                .alt y126 (fun y127 => (
                  .ret (.inl ()))) (fun y128 => (
                  .ret (.inr ())))))) (
              let v129 : Bool := (leI 9 r1a)
              .br v129 (
                let v130 : Bool := (r1d != 0)
                .br v130 (
                  .ret (.inl ())) (
                  .call (bautaref15_Can_j12 N t5 r0a r1a r1b r1c r1e) fun y131 => (
                  .alt y131 (fun y132 => (
                    .ret (.inl ()))) (fun y133 => (
                    .ret (.inr ())))))) (
                .call (bautaref15_Can_j12 N t5 r0a r1a r1b r1c r1e) fun y134 => (
                .alt y134 (fun y135 => (
                  .ret (.inl ()))) (fun y136 => (
                  .ret (.inr ()))))))) (
            let v137 : Bool := (leI 9 r1a)
            .br v137 (
              let v138 : Bool := (r1d != 0)
              .br v138 (
                .ret (.inl ())) (
                .call (bautaref15_Can_j12 N t5 r0a r1a r1b r1c r1e) fun y139 => (
                .alt y139 (fun y140 => (
                  .ret (.inl ()))) (fun y141 => (
                  .ret (.inr ())))))) (
              .call (bautaref15_Can_j12 N t5 r0a r1a r1b r1c r1e) fun y142 => (
              .alt y142 (fun y143 => (
                .ret (.inl ()))) (fun y144 => (
                .ret (.inr ())))))))))) (
    let v145 : Bool := (r1a == 2)
    .br v145 (
      let v146 : Int := (IntKind.i64.wrap r1d)
      let v147 : Bool := (leI r0c v146)
      .br v147 (
        .ret (.inl ())) (
        let v148 : Bool := (leI 6 r1a)
        .br v148 (
          let v149 : Bool := (leI r1a 8)
          .br v149 (
            let v150 : Bool := (ltI 31 r1d)
            .br v150 (
              .ret (.inl ())) (
              let v151 : Bool := (leI 3 r1a)
              .br v151 (
                let v152 : Bool := (leI r1a 5)
                .br v152 (
                  let v153 : Bool := (r1d != 0)
                  .br v153 (
                    .ret (.inl ())) (
                    .call (bautaref15_Can_j12 N t5 r0a r1a r1b r1c r1e) fun y154 => (
                    .alt y154 (fun y155 => (
                      .ret (.inl ()))) (fun y156 => (
                      .ret (.inr ())))))) (
                  let v157 : Bool := (leI 9 r1a)
                  .br v157 (
                    let v158 : Bool := (r1d != 0)
                    .br v158 (
                      .ret (.inl ())) (
                      .call (bautaref15_Can_j12 N t5 r0a r1a r1b r1c r1e) fun y159 => (
                      .alt y159 (fun y160 => (
                        .ret (.inl ()))) (fun y161 => (
                        .ret (.inr ())))))) (
                    .call (bautaref15_Can_j12 N t5 r0a r1a r1b r1c r1e) fun y162 => (
                    .alt y162 (fun y163 => (
                      .ret (.inl ()))) (fun y164 => (
                      .ret (.inr ()))))))) (
                let v165 : Bool := (leI 9 r1a)
                .br v165 (
                  let v166 : Bool := (r1d != 0)
                  .br v166 (
                    .ret (.inl ())) (
                    .call (bautaref15_Can_j12 N t5 r0a r1a r1b r1c r1e) fun y167 => (
                    .alt y167 (fun y168 => (
                      .ret (.inl ()))) (fun y169 => (
                      .ret (.inr ())))))) (
                  .call (bautaref15_Can_j12 N t5 r0a r1a r1b r1c r1e) fun y170 => (
                  .alt y170 (fun y171 => (
                    .ret (.inl ()))) (fun y172 => (
                    .ret (.inr ())))))))) (
            let v173 : Bool := (leI 3 r1a)
            .br v173 (
              let v174 : Bool := (leI r1a 5)
              .br v174 (
                let v175 : Bool := (r1d != 0)
                .br v175 (
                  .ret (.inl ())) (
                  .call (bautaref15_Can_j12 N t5 r0a r1a r1b r1c r1e) fun y176 => (
                  .alt y176 (fun y177 => (
                    .ret (.inl ()))) (fun y178 => (
                    .ret (.inr ())))))) (
                let v179 : Bool := (leI 9 r1a)
                .br v179 (
                  let v180 : Bool := (r1d != 0)
                  .br v180 (
                    .ret (.inl ())) (
                    .call (bautaref15_Can_j12 N t5 r0a r1a r1b r1c r1e) fun y181 => (
                    .alt y181 (fun y182 => (
                      .ret (.inl ()))) (fun y183 => (
                      .ret (.inr ())))))) (
                  .call (bautaref15_Can_j12 N t5 r0a r1a r1b r1c r1e) fun y184 => (
                  .alt y184 (fun y185 => (
                    .ret (.inl ()))) (fun y186 => (
                    .ret (.inr ()))))))) (
              let v187 : Bool := (leI 9 r1a)
              .br v187 (
                let v188 : Bool := (r1d != 0)
                .br v188 (
                  .ret (.inl ())) (
                  .call (bautaref15_Can_j12 N t5 r0a r1a r1b r1c r1e) fun y189 => (
                  .alt y189 (fun y190 => (
                    .ret (.inl ()))) (fun y191 => (
                    .ret (.inr ())))))) (
                .call (bautaref15_Can_j12 N t5 r0a r1a r1b r1c r1e) fun y192 => (
                .alt y192 (fun y193 => (
                  .ret (.inl ()))) (fun y194 => (
                  .ret (.inr ())))))))) (
          let v195 : Bool := (leI 3 r1a)
          .br v195 (
            let v196 : Bool := (leI r1a 5)
            .br v196 (
              let v197 : Bool := (r1d != 0)
              .br v197 (
                .ret (.inl ())) (
                .call (bautaref15_Can_j12 N t5 r0a r1a r1b r1c r1e) fun y198 => (
                .alt y198 (fun y199 => (
                  .ret (.inl ()))) (fun y200 => (
                  .ret (.inr ())))))) (
              let v201 : Bool := (leI 9 r1a)
              .br v201 (
                let v202 : Bool := (r1d != 0)
                .br v202 (
                  .ret (.inl ())) (
                  .call (bautaref15_Can_j12 N t5 r0a r1a r1b r1c r1e) fun y203 => (
                  .alt y203 (fun y204 => (
                    .ret (.inl ()))) (fun y205 => (
                    .ret (.inr ())))))) (
                .call (bautaref15_Can_j12 N t5 r0a r1a r1b r1c r1e) fun y206 => (
                .alt y206 (fun y207 => (
                  .ret (.inl ()))) (fun y208 => (
                  .ret (.inr ()))))))) (
            let v209 : Bool := (leI 9 r1a)
            .br v209 (
              let v210 : Bool := (r1d != 0)
              .br v210 (
                .ret (.inl ())) (
                .call (bautaref15_Can_j12 N t5 r0a r1a r1b r1c r1e) fun y211 => (
                .alt y211 (fun y212 => (
                  .ret (.inl ()))) (fun y213 => (
                  .ret (.inr ())))))) (
              .call (bautaref15_Can_j12 N t5 r0a r1a r1b r1c r1e) fun y214 => (
              .alt y214 (fun y215 => (
                .ret (.inl ()))) (fun y216 => (
                .ret (.inr ()))))))))) (
      let v217 : Bool := (leI 6 r1a)
      .br v217 (
        let v218 : Bool := (leI r1a 8)
        .br v218 (
          let v219 : Bool := (ltI 31 r1d)
          .br v219 (
            .ret (.inl ())) (
            let v220 : Bool := (leI 3 r1a)
            .br v220 (
              let v221 : Bool := (leI r1a 5)
              .br v221 (
                let v222 : Bool := (r1d != 0)
                .br v222 (
                  .ret (.inl ())) (
                  .call (bautaref15_Can_j12 N t5 r0a r1a r1b r1c r1e) fun y223 => (
                  .alt y223 (fun y224 => (
                    .ret (.inl ()))) (fun y225 => (
                    .ret (.inr ())))))) (
                let v226 : Bool := (leI 9 r1a)
                .br v226 (
                  let v227 : Bool := (r1d != 0)
                  .br v227 (
                    .ret (.inl ())) (
                    .call (bautaref15_Can_j12 N t5 r0a r1a r1b r1c r1e) fun y228 => (
                    .alt y228 (fun y229 => (
                      .ret (.inl ()))) (fun y230 => (
                      .ret (.inr ())))))) (
                  .call (bautaref15_Can_j12 N t5 r0a r1a r1b r1c r1e) fun y231 => (
                  .alt y231 (fun y232 => (
                    .ret (.inl ()))) (fun y233 => (
                    .ret (.inr ()))))))) (
              let v234 : Bool := (leI 9 r1a)
              .br v234 (
                let v235 : Bool := (r1d != 0)
                .br v235 (
                  .ret (.inl ())) (
                  .call (bautaref15_Can_j12 N t5 r0a r1a r1b r1c r1e) fun y236 => (
                  .alt y236 (fun y237 => (
                    .ret (.inl ()))) (fun y238 => (
                    .ret (.inr ())))))) (
                .call (bautaref15_Can_j12 N t5 r0a r1a r1b r1c r1e) fun y239 => (
                .alt y239 (fun y240 => (
                  .ret (.inl ()))) (fun y241 => (
                  .ret (.inr ())))))))) (
          let v242 : Bool := (leI 3 r1a)
          .br v242 (
            let v243 : Bool := (leI r1a 5)
            .br v243 (
              let v244 : Bool := (r1d != 0)
              .br v244 (
                .ret (.inl ())) (
                .call (bautaref15_Can_j12 N t5 r0a r1a r1b r1c r1e) fun y245 => (
                .alt y245 (fun y246 => (
                  .ret (.inl ()))) (fun y247 => (
                  .ret (.inr ())))))) (
              let v248 : Bool := (leI 9 r1a)
              .br v248 (
                let v249 : Bool := (r1d != 0)
                .br v249 (
                  .ret (.inl ())) (
                  .call (bautaref15_Can_j12 N t5 r0a r1a r1b r1c r1e) fun y250 => (
                  .alt y250 (fun y251 => (
                    .ret (.inl ()))) (fun y252 => (
                    .ret (.inr ())))))) (
                .call (bautaref15_Can_j12 N t5 r0a r1a r1b r1c r1e) fun y253 => (
                .alt y253 (fun y254 => (
                  .ret (.inl ()))) (fun y255 => (
                  .ret (.inr ()))))))) (
            let v256 : Bool := (leI 9 r1a)
            .br v256 (
              let v257 : Bool := (r1d != 0)
              .br v257 (
                .ret (.inl ())) (
                .call (bautaref15_Can_j12 N t5 r0a r1a r1b r1c r1e) fun y258 => (
                .alt y258 (fun y259 => (
                  .ret (.inl ()))) (fun y260 => (
                  .ret (.inr ())))))) (
              .call (bautaref15_Can_j12 N t5 r0a r1a r1b r1c r1e) fun y261 => (
              .alt y261 (fun y262 => (
                .ret (.inl ()))) (fun y263 => (
                .ret (.inr ())))))))) (
        let v264 : Bool := (leI 3 r1a)
        .br v264 (
          let v265 : Bool := (leI r1a 5)
          .br v265 (
            let v266 : Bool := (r1d != 0)
            .br v266 (
              .ret (.inl ())) (
              .call (bautaref15_Can_j12 N t5 r0a r1a r1b r1c r1e) fun y267 => (
              .alt y267 (fun y268 => (
                .ret (.inl ()))) (fun y269 => (
                .ret (.inr ())))))) (
            let v270 : Bool := (leI 9 r1a)
            .br v270 (
              let v271 : Bool := (r1d != 0)
              .br v271 (
                .ret (.inl ())) (
                .call (bautaref15_Can_j12 N t5 r0a r1a r1b r1c r1e) fun y272 => (
                .alt y272 (fun y273 => (
                  .ret (.inl ()))) (fun y274 => (
                  .ret (.inr ())))))) (
              .call (bautaref15_Can_j12 N t5 r0a r1a r1b r1c r1e) fun y275 => (
              .alt y275 (fun y276 => (
                .ret (.inl ()))) (fun y277 => (
                .ret (.inr ()))))))) (
          let v278 : Bool := (leI 9 r1a)
          .br v278 (
            let v279 : Bool := (r1d != 0)
            .br v279 (
              .ret (.inl ())) (
              .call (bautaref15_Can_j12 N t5 r0a r1a r1b r1c r1e) fun y280 => (
              .alt y280 (fun y281 => (
                .ret (.inl ()))) (fun y282 => (
                .ret (.inr ())))))) (
            .call (bautaref15_Can_j12 N t5 r0a r1a r1b r1c r1e) fun y283 => (
            .alt y283 (fun y284 => (
              .ret (.inl ()))) (fun y285 => (
              .ret (.inr ())))))))))
noncomputable def bautaref15_Can_j10 (N : Nat) (t5 : Int) (r0a : (List (Int × (Int × (Int × (Int × Bool)))))) (r0b : Int) (r0c : Int) (r1a : Int) (r1b : Int) (r1c : Int) (r1d : Int) (r1e : Bool) : Option (Unit ⊕ Unit) := (bautaref15_Can_j10_T N t5 r0a r0b r0c r1a r1b r1c r1d r1e).run some
noncomputable def bautaref15_Can_l4_T (N : Nat) (r0a : (List (Int × (Int × (Int × (Int × Bool)))))) (r0b : Int) (r0c : Int) (t3 : Int) : Tree (Int ⊕ (Unit ⊕ Unit)) :=
  let v1 : Int := (r0a.length : Int)
  let v2 : Bool := (ltI t3 v1)
  .br v2 (
    .br (inRange t3 r0a.length) (
    let v3 : (Int × (Int × (Int × (Int × Bool)))) := (r0a.getD t3.toNat (0, (0, (0, (0, false)))))
    .call (bautaref15_Takes N v3.1) fun y4 => (
    let v5 : Bool := (ltI v3.1 0)
    .br v5 (
      .ret (.inr (.inl ()))) (
      let v6 : Bool := (ltI 11 v3.1)
      .br v6 (
        .ret (.inr (.inl ()))) (
        let v7 : Bool := (ltI y4 2)
        .br v7 (
          let v8 : Bool := (v3.2.2.1 != 0)
          .br v8 (
            .ret (.inr (.inl ()))) (
            let v9 : Bool := (ltI y4 1)
            .br v9 (
              let v10 : Bool := (v3.2.1 != 0)
              .br v10 (
                .ret (.inr (.inl ()))) (
                let v11 : Bool := (ltI 0 y4)
                .br v11 (
                  let v12 : Bool := (ltI v3.2.1 0)
                  .br v12 (
                    .ret (.inr (.inl ()))) (
                    let v13 : Bool := (leI t3 v3.2.1)
                    .br v13 (
                      .ret (.inr (.inl ()))) (
                      let v14 : Bool := (ltI 1 y4)
                      .br v14 (
                        let v15 : Bool := (ltI v3.2.2.1 0)
                        .br v15 (
                          .ret (.inr (.inl ()))) (
                          let v16 : Bool := (leI t3 v3.2.2.1)
                          .br v16 (
                            .ret (.inr (.inl ()))) (
                            .call (bautaref15_Can_j10 N y4 r0a r0b r0c v3.1 v3.2.1 v3.2.2.1 v3.2.2.2.1 v3.2.2.2.2) fun y17 => (
                            .alt y17 (fun y18 => (
                              .ret (.inr (.inl ())))) (fun y19 => (
                              let v20 : Int := (IntKind.i64.wrap (t3 + 1))
                              .ret (.inl v20))))))) (
                        .call (bautaref15_Can_j10 N y4 r0a r0b r0c v3.1 v3.2.1 v3.2.2.1 v3.2.2.2.1 v3.2.2.2.2) fun y21 => (
                        .alt y21 (fun y22 => (
                          .ret (.inr (.inl ())))) (fun y23 => (
                          let v24 : Int := (IntKind.i64.wrap (t3 + 1))
                          .ret (.inl v24)))))))) (
                  let v25 : Bool := (ltI 1 y4)
                  .br v25 (
                    let v26 : Bool := (ltI v3.2.2.1 0)
                    .br v26 (
                      .ret (.inr (.inl ()))) (
                      let v27 : Bool := (leI t3 v3.2.2.1)
                      .br v27 (
                        .ret (.inr (.inl ()))) (
                        .call (bautaref15_Can_j10 N y4 r0a r0b r0c v3.1 v3.2.1 v3.2.2.1 v3.2.2.2.1 v3.2.2.2.2) fun y28 => (
                        .alt y28 (fun y29 => (
                          .ret (.inr (.inl ())))) (fun y30 => (
                          let v31 : Int := (IntKind.i64.wrap (t3 + 1))
                          .ret (.inl v31))))))) (
                    .call (bautaref15_Can_j10 N y4 r0a r0b r0c v3.1 v3.2.1 v3.2.2.1 v3.2.2.2.1 v3.2.2.2.2) fun y32 => (
                    .alt y32 (fun y33 => (
                      .ret (.inr (.inl ())))) (fun y34 => (
                      let v35 : Int := (IntKind.i64.wrap (t3 + 1))
                      .ret (.inl v35)))))))) (
              let v36 : Bool := (ltI 0 y4)
              .br v36 (
                let v37 : Bool := (ltI v3.2.1 0)
                .br v37 (
                  .ret (.inr (.inl ()))) (
                  let v38 : Bool := (leI t3 v3.2.1)
                  .br v38 (
                    .ret (.inr (.inl ()))) (
                    let v39 : Bool := (ltI 1 y4)
                    .br v39 (
                      let v40 : Bool := (ltI v3.2.2.1 0)
                      .br v40 (
                        .ret (.inr (.inl ()))) (
                        let v41 : Bool := (leI t3 v3.2.2.1)
                        .br v41 (
                          .ret (.inr (.inl ()))) (
                          .call (bautaref15_Can_j10 N y4 r0a r0b r0c v3.1 v3.2.1 v3.2.2.1 v3.2.2.2.1 v3.2.2.2.2) fun y42 => (
                          .alt y42 (fun y43 => (
                            .ret (.inr (.inl ())))) (fun y44 => (
                            let v45 : Int := (IntKind.i64.wrap (t3 + 1))
                            .ret (.inl v45))))))) (
                      .call (bautaref15_Can_j10 N y4 r0a r0b r0c v3.1 v3.2.1 v3.2.2.1 v3.2.2.2.1 v3.2.2.2.2) fun y46 => (
                      .alt y46 (fun y47 => (
                        .ret (.inr (.inl ())))) (fun y48 => (
                        let v49 : Int := (IntKind.i64.wrap (t3 + 1))
                        .ret (.inl v49)))))))) (
                let v50 : Bool := (ltI 1 y4)
                .br v50 (
                  let v51 : Bool := (ltI v3.2.2.1 0)
                  .br v51 (
                    .ret (.inr (.inl ()))) (
                    let v52 : Bool := (leI t3 v3.2.2.1)
                    .br v52 (
                      .ret (.inr (.inl ()))) (
                      .call (bautaref15_Can_j10 N y4 r0a r0b r0c v3.1 v3.2.1 v3.2.2.1 v3.2.2.2.1 v3.2.2.2.2) fun y53 => (
                      .alt y53 (fun y54 => (
                        .ret (.inr (.inl ())))) (fun y55 => (
                        let v56 : Int := (IntKind.i64.wrap (t3 + 1))
                        .ret (.inl v56))))))) (
                  .call (bautaref15_Can_j10 N y4 r0a r0b r0c v3.1 v3.2.1 v3.2.2.1 v3.2.2.2.1 v3.2.2.2.2) fun y57 => (
                  .alt y57 (fun y58 => (
                    .ret (.inr (.inl ())))) (fun y59 => (
                    let v60 : Int := (IntKind.i64.wrap (t3 + 1))
                    .ret (.inl v60))))))))) (
          let v61 : Bool := (ltI y4 1)
          .br v61 (
            let v62 : Bool := (v3.2.1 != 0)
            .br v62 (
              .ret (.inr (.inl ()))) (
              let v63 : Bool := (ltI 0 y4)
              .br v63 (
                let v64 : Bool := (ltI v3.2.1 0)
                .br v64 (
                  .ret (.inr (.inl ()))) (
                  let v65 : Bool := (leI t3 v3.2.1)
                  .br v65 (
                    .ret (.inr (.inl ()))) (
                    let v66 : Bool := (ltI 1 y4)
                    .br v66 (
                      let v67 : Bool := (ltI v3.2.2.1 0)
                      .br v67 (
                        .ret (.inr (.inl ()))) (
                        let v68 : Bool := (leI t3 v3.2.2.1)
                        .br v68 (
                          .ret (.inr (.inl ()))) (
                          .call (bautaref15_Can_j10 N y4 r0a r0b r0c v3.1 v3.2.1 v3.2.2.1 v3.2.2.2.1 v3.2.2.2.2) fun y69 => (
                          .alt y69 (fun y70 => (
                            .ret (.inr (.inl ())))) (fun y71 => (
                            let v72 : Int := (IntKind.i64.wrap (t3 + 1))
                            .ret (.inl v72))))))) (
                      .call (bautaref15_Can_j10 N y4 r0a r0b r0c v3.1 v3.2.1 v3.2.2.1 v3.2.2.2.1 v3.2.2.2.2) fun y73 => (
                      .alt y73 (fun y74 => (
                        .ret (.inr (.inl ())))) (fun y75 => (
                        let v76 : Int := (IntKind.i64.wrap (t3 + 1))
                        .ret (.inl v76)))))))) (
                let v77 : Bool := (ltI 1 y4)
                .br v77 (
                  let v78 : Bool := (ltI v3.2.2.1 0)
                  .br v78 (
                    .ret (.inr (.inl ()))) (
                    let v79 : Bool := (leI t3 v3.2.2.1)
                    .br v79 (
                      .ret (.inr (.inl ()))) (
                      .call (bautaref15_Can_j10 N y4 r0a r0b r0c v3.1 v3.2.1 v3.2.2.1 v3.2.2.2.1 v3.2.2.2.2) fun y80 => (
                      .alt y80 (fun y81 => (
                        .ret (.inr (.inl ())))) (fun y82 => (
                        let v83 : Int := (IntKind.i64.wrap (t3 + 1))
                        .ret (.inl v83))))))) (
                  .call (bautaref15_Can_j10 N y4 r0a r0b r0c v3.1 v3.2.1 v3.2.2.1 v3.2.2.2.1 v3.2.2.2.2) fun y84 => (
                  .alt y84 (fun y85 => (
                    .ret (.inr (.inl ())))) (fun y86 => (
                    let v87 : Int := (IntKind.i64.wrap (t3 + 1))
                    .ret (.inl v87)))))))) (
            let v88 : Bool := (ltI 0 y4)
            .br v88 (
              let v89 : Bool := (ltI v3.2.1 0)
              .br v89 (
                .ret (.inr (.inl ()))) (
                let v90 : Bool := (leI t3 v3.2.1)
                .br v90 (
                  .ret (.inr (.inl ()))) (
                  let v91 : Bool := (ltI 1 y4)
                  .br v91 (
                    let v92 : Bool := (ltI v3.2.2.1 0)
                    .br v92 (
                      .ret (.inr (.inl ()))) (
                      let v93 : Bool := (leI t3 v3.2.2.1)
                      .br v93 (
                        .ret (.inr (.inl ()))) (
                        .call (bautaref15_Can_j10 N y4 r0a r0b r0c v3.1 v3.2.1 v3.2.2.1 v3.2.2.2.1 v3.2.2.2.2) fun y94 => (
                        .alt y94 (fun y95 => (
                          .ret (.inr (.inl ())))) (fun y96 => (
                          let v97 : Int := (IntKind.i64.wrap (t3 + 1))
                          .ret (.inl v97))))))) (
                    .call (bautaref15_Can_j10 N y4 r0a r0b r0c v3.1 v3.2.1 v3.2.2.1 v3.2.2.2.1 v3.2.2.2.2) fun y98 => (
                    .alt y98 (fun y99 => (
                      .ret (.inr (.inl ())))) (fun y100 => (
                      let v101 : Int := (IntKind.i64.wrap (t3 + 1))
                      .ret (.inl v101)))))))) (
              let v102 : Bool := (ltI 1 y4)
              .br v102 (
                let v103 : Bool := (ltI v3.2.2.1 0)
                .br v103 (
                  .ret (.inr (.inl ()))) (
                  let v104 : Bool := (leI t3 v3.2.2.1)
                  .br v104 (
                    .ret (.inr (.inl ()))) (
                    .call (bautaref15_Can_j10 N y4 r0a r0b r0c v3.1 v3.2.1 v3.2.2.1 v3.2.2.2.1 v3.2.2.2.2) fun y105 => (
                    .alt y105 (fun y106 => (
                      .ret (.inr (.inl ())))) (fun y107 => (
                      let v108 : Int := (IntKind.i64.wrap (t3 + 1))
                      .ret (.inl v108))))))) (
                .call (bautaref15_Can_j10 N y4 r0a r0b r0c v3.1 v3.2.1 v3.2.2.1 v3.2.2.2.1 v3.2.2.2.2) fun y109 => (
                .alt y109 (fun y110 => (
                  .ret (.inr (.inl ())))) (fun y111 => (
                  let v112 : Int := (IntKind.i64.wrap (t3 + 1))
                  .ret (.inl v112)))))))))))) .fail) (
    .ret (.inr (.inr ())))
noncomputable def bautaref15_Can_l4 (N : Nat) (r0a : (List (Int × (Int × (Int × (Int × Bool)))))) (r0b : Int) (r0c : Int) (v : Int) : Option (Unit ⊕ Unit) := loopN (fun v => bautaref15_Can_l4_T N r0a r0b r0c v) N v
noncomputable def bautaref15_Can_l16_T (N : Nat) (r0a : (List (Int × (Int × (Int × (Int × Bool)))))) (r0d : (List (ByteArray × Int))) (t7 : Int) : Tree (Int ⊕ (Unit ⊕ Unit)) :=
  let v1 : Int := (r0d.length : Int)
  let v2 : Bool := (ltI t7 v1)
  .br v2 (
    .br (inRange t7 r0d.length) (
    let v3 : (ByteArray × Int) := (r0d.getD t7.toNat (ByteArray.empty, 0))
    let v4 : Bool := (ltI v3.2 0)
    .br v4 (
      .ret (.inr (.inl ()))) (
      .br (inRange t7 r0d.length) (
      let v5 : (ByteArray × Int) := (r0d.getD t7.toNat (ByteArray.empty, 0))
      let v6 : Int := (r0a.length : Int)
      let v7 : Bool := (leI v6 v5.2)
      .br v7 (
        .ret (.inr (.inl ()))) (
        let v8 : Int := (IntKind.i64.wrap (t7 + 1))
        .ret (.inl v8))) .fail)) .fail) (
    .ret (.inr (.inr ())))
noncomputable def bautaref15_Can_l16 (N : Nat) (r0a : (List (Int × (Int × (Int × (Int × Bool)))))) (r0d : (List (ByteArray × Int))) (v : Int) : Option (Unit ⊕ Unit) := loopN (fun v => bautaref15_Can_l16_T N r0a r0d v) N v
noncomputable def bautaref15_Can_j3_T (N : Nat) (r0a : (List (Int × (Int × (Int × (Int × Bool)))))) (r0b : Int) (r0c : Int) (r0d : (List (ByteArray × Int))) : Tree Bool :=
  .call (bautaref15_Can_l4 N r0a r0b r0c 0) fun y1 => (
  .alt y1 (fun y2 => (
    .ret false)) (fun y3 => (
    .call (bautaref15_Can_l16 N r0a r0d 0) fun y4 => (
    .alt y4 (fun y5 => (
      .ret false)) (fun y6 => (
      .ret true))))))
noncomputable def bautaref15_Can_j3 (N : Nat) (r0a : (List (Int × (Int × (Int × (Int × Bool)))))) (r0b : Int) (r0c : Int) (r0d : (List (ByteArray × Int))) : Option Bool := (bautaref15_Can_j3_T N r0a r0b r0c r0d).run some
noncomputable def bautaref15_Can_T (N : Nat) (t0a : (List (Int × (Int × (Int × (Int × Bool)))))) (t0b : Int) (t0c : Int) (t0d : (List (ByteArray × Int))) : Tree Bool :=
  let v1 : Bool := (ltI t0b 0)
  .br v1 (
    .ret false) (
    let v2 : Bool := (ltI 1000 t0b)
    .br v2 (
      .ret false) (
      let v3 : Bool := (ltI t0c 0)
      .br v3 (
        .ret false) (
        let v4 : Bool := (ltI 1000 t0c)
        .br v4 (
          .ret false) (
          let v5 : Int := (t0a.length : Int)
          let v6 : Bool := (ltI 8000 v5)
          .br v6 (
            .ret false) (
            .call (bautaref15_Can_j3 N t0a t0b t0c t0d) fun y7 => (
            .ret y7))))))
noncomputable def bautaref15_Can (N : Nat) (t0a : (List (Int × (Int × (Int × (Int × Bool)))))) (t0b : Int) (t0c : Int) (t0d : (List (ByteArray × Int))) : Option Bool := (bautaref15_Can_T N t0a t0b t0c t0d).run some
/-! ### bauta/bautaref16.Plain -/
noncomputable def bautaref16_Plain_l2_T (N : Nat) (r0a : (List (Int × (Int × (Int × (Int × Bool)))))) (t3 : Int) : Tree (Int ⊕ (Unit ⊕ Unit)) :=
  let v1 : Int := (r0a.length : Int)
  let v2 : Bool := (ltI t3 v1)
  .br v2 (
    .br (inRange t3 r0a.length) (
    let v3 : (Int × (Int × (Int × (Int × Bool)))) := (r0a.getD t3.toNat (0, (0, (0, (0, false)))))
    let v4 : Bool := (ltI 8 v3.1)
    .br v4 (
      .ret (.inr (.inl ()))) (
      let v5 : Int := (IntKind.i64.wrap (t3 + 1))
      .ret (.inl v5))) .fail) (
    .ret (.inr (.inr ())))
noncomputable def bautaref16_Plain_l2 (N : Nat) (r0a : (List (Int × (Int × (Int × (Int × Bool)))))) (v : Int) : Option (Unit ⊕ Unit) := loopN (fun v => bautaref16_Plain_l2_T N r0a v) N v
noncomputable def bautaref16_Plain_T (N : Nat) (t0a : (List (Int × (Int × (Int × (Int × Bool)))))) (t0b : Int) (t0c : Int) (t0d : (List (ByteArray × Int))) : Tree Bool :=
  .call (bautaref16_Plain_l2 N t0a 0) fun y1 => (
  .alt y1 (fun y2 => (
    .ret false)) (fun y3 => (
    .call (bautaref15_Can N t0a t0b t0c t0d) fun y4 => (
    .ret y4))))
noncomputable def bautaref16_Plain (N : Nat) (t0a : (List (Int × (Int × (Int × (Int × Bool)))))) (t0b : Int) (t0c : Int) (t0d : (List (ByteArray × Int))) : Option Bool := (bautaref16_Plain_T N t0a t0b t0c t0d).run some
/-! ### bauta/bautaref17.Inputs -/
noncomputable def bautaref17_Inputs_j6_T (N : Nat) (t4 : Int) (t28 : Bool) (r0a : (List (Int × (Int × (Int × (Int × Bool)))))) (r1 : (List (Int × (Int × (Int × (Int × Bool)))))) : Tree (List (Int × (Int × (Int × (Int × Bool))))) :=
  .br t28 (
    .br (inRange t4 r0a.length) (
    let v1 : (Int × (Int × (Int × (Int × Bool)))) := (r0a.getD t4.toNat (0, (0, (0, (0, false)))))
    .br (ltI (((r1.length : Int) + 1) * 32) 140737488355328) (
    let v2 : (List (Int × (Int × (Int × (Int × Bool))))) := (r1 ++ [(v1.1, (v1.2.1, (v1.2.2.1, (v1.2.2.2.1, v1.2.2.2.2))))])
    .ret v2) .fail) .fail) (
    .ret r1)
noncomputable def bautaref17_Inputs_j6 (N : Nat) (t4 : Int) (t28 : Bool) (r0a : (List (Int × (Int × (Int × (Int × Bool)))))) (r1 : (List (Int × (Int × (Int × (Int × Bool)))))) : Option (List (Int × (Int × (Int × (Int × Bool))))) := (bautaref17_Inputs_j6_T N t4 t28 r0a r1).run some
noncomputable def bautaref17_Inputs_l3_T (N : Nat) (r0a : (List (Int × (Int × (Int × (Int × Bool)))))) (t4 : Int) (r1 : (List (Int × (Int × (Int × (Int × Bool)))))) : Tree ((Int × (List (Int × (Int × (Int × (Int × Bool)))))) ⊕ (List (Int × (Int × (Int × (Int × Bool)))))) :=
  let v1 : Int := (r0a.length : Int)
  let v2 : Bool := (ltI t4 v1)
  .br v2 (
    .br (inRange t4 r0a.length) (
    let v3 : (Int × (Int × (Int × (Int × Bool)))) := (r0a.getD t4.toNat (0, (0, (0, (0, false)))))
    let v4 : Bool := (v3.1 == 1)
    .br v4 (
      .call (bautaref17_Inputs_j6 N t4 true r0a r1) fun y5 => (
      let v6 : Int := (IntKind.i64.wrap (t4 + 1))
      .ret (.inl (v6, y5)))) (
      .br (inRange t4 r0a.length) (
      let v7 : (Int × (Int × (Int × (Int × Bool)))) := (r0a.getD t4.toNat (0, (0, (0, (0, false)))))
      let v8 : Bool := (v7.1 == 2)
      .call (bautaref17_Inputs_j6 N t4 v8 r0a r1) fun y9 => (
      let v10 : Int := (IntKind.i64.wrap (t4 + 1))
      .ret (.inl (v10, y9)))) .fail)) .fail) (
    .ret (.inr r1))
noncomputable def bautaref17_Inputs_l3 (N : Nat) (r0a : (List (Int × (Int × (Int × (Int × Bool)))))) (v : (Int × (List (Int × (Int × (Int × (Int × Bool))))))) : Option (List (Int × (Int × (Int × (Int × Bool))))) := loopN (fun v => bautaref17_Inputs_l3_T N r0a v.1 v.2) N v
noncomputable def bautaref17_Inputs_T (N : Nat) (t0a : (List (Int × (Int × (Int × (Int × Bool)))))) : Tree (List (Int × (Int × (Int × (Int × Bool))))) :=
  .call (bautaref17_Inputs_l3 N t0a (0, [])) fun y1 => (
  .ret y1)
noncomputable def bautaref17_Inputs (N : Nat) (t0a : (List (Int × (Int × (Int × (Int × Bool)))))) : Option (List (Int × (Int × (Int × (Int × Bool))))) := (bautaref17_Inputs_T N t0a).run some
/-! ### bauta/bautaref17.Twice -/
noncomputable def bautaref17_Twice_l6_T (N : Nat) (t4 : Int) (r0 : (List (Int × (Int × (Int × (Int × Bool)))))) (t5 : Int) : Tree (Int ⊕ (Unit ⊕ Unit)) :=
  let v1 : Bool := (ltI t5 t4)
  .br v1 (
    .br (inRange t4 r0.length) (
    let v2 : (Int × (Int × (Int × (Int × Bool)))) := (r0.getD t4.toNat (0, (0, (0, (0, false)))))
    .br (inRange t5 r0.length) (
    let v3 : (Int × (Int × (Int × (Int × Bool)))) := (r0.getD t5.toNat (0, (0, (0, (0, false)))))
    let v4 : Bool := ((v2.1 == v3.1) && ((v2.2.1 == v3.2.1) && ((v2.2.2.1 == v3.2.2.1) && ((v2.2.2.2.1 == v3.2.2.2.1) && (v2.2.2.2.2 == v3.2.2.2.2)))))
    .br v4 (
      .ret (.inr (.inl ()))) (
      let v5 : Int := (IntKind.i64.wrap (t5 + 1))
      .ret (.inl v5))) .fail) .fail) (
    .ret (.inr (.inr ())))
noncomputable def bautaref17_Twice_l6 (N : Nat) (t4 : Int) (r0 : (List (Int × (Int × (Int × (Int × Bool)))))) (v : Int) : Option (Unit ⊕ Unit) := loopN (fun v => bautaref17_Twice_l6_T N t4 r0 v) N v
noncomputable def bautaref17_Twice_l3_T (N : Nat) (r0 : (List (Int × (Int × (Int × (Int × Bool)))))) (t4 : Int) : Tree (Int ⊕ (Unit ⊕ Unit)) :=
  let v1 : Int := (r0.length : Int)
  let v2 : Bool := (ltI t4 v1)
  .br v2 (
    .call (bautaref17_Twice_l6 N t4 r0 0) fun y3 => (
    .alt y3 (fun y4 => (
      .ret (.inr (.inl ())))) (fun y5 => (
      let v6 : Int := (IntKind.i64.wrap (t4 + 1))
      .ret (.inl v6))))) (
    .ret (.inr (.inr ())))
noncomputable def bautaref17_Twice_l3 (N : Nat) (r0 : (List (Int × (Int × (Int × (Int × Bool)))))) (v : Int) : Option (Unit ⊕ Unit) := loopN (fun v => bautaref17_Twice_l3_T N r0 v) N v
noncomputable def bautaref17_Twice_T (N : Nat) (t0a : (List (Int × (Int × (Int × (Int × Bool)))))) : Tree Bool :=
  .call (bautaref17_Inputs N t0a) fun y1 => (
  .call (bautaref17_Twice_l3 N y1 0) fun y2 => (
  .alt y2 (fun y3 => (
    .ret true)) (fun y4 => (
    .ret false))))
noncomputable def bautaref17_Twice (N : Nat) (t0a : (List (Int × (Int × (Int × (Int × Bool)))))) : Option Bool := (bautaref17_Twice_T N t0a).run some
/-! ### bauta/bautalaw17.plain -/
noncomputable def bautalaw17_plain_T (N : Nat) (t0a : (List (Int × (Int × (Int × (Int × Bool)))))) (t0b : Int) (t0c : Int) (t0d : (List (ByteArray × Int))) : Tree Bool :=
  .call (bautaref16_Plain N t0a t0b t0c t0d) fun y1 => (
  .br y1 (
    .call (bautaref17_Twice N t0a) fun y2 => (
    let v3 : Bool := (!y2)
    .ret v3)) (
    .ret false))
noncomputable def bautalaw17_plain (N : Nat) (t0a : (List (Int × (Int × (Int × (Int × Bool)))))) (t0b : Int) (t0c : Int) (t0d : (List (ByteArray × Int))) : Option Bool := (bautalaw17_plain_T N t0a t0b t0c t0d).run some
/-! ### bauta/bautaref15.Same -/
noncomputable def bautaref15_Same_l4_T (N : Nat) (r0a : (List (Int × (Int × (Int × (Int × Bool)))))) (r1a : (List (Int × (Int × (Int × (Int × Bool)))))) (t5 : Int) : Tree (Int ⊕ (Unit ⊕ Unit)) :=
  let v1 : Int := (r0a.length : Int)
  let v2 : Bool := (ltI t5 v1)
  .br v2 (
    .br (inRange t5 r0a.length) (
    let v3 : (Int × (Int × (Int × (Int × Bool)))) := (r0a.getD t5.toNat (0, (0, (0, (0, false)))))
    .br (inRange t5 r1a.length) (
    let v4 : (Int × (Int × (Int × (Int × Bool)))) := (r1a.getD t5.toNat (0, (0, (0, (0, false)))))
    let v5 : Bool := (!((v3.1 == v4.1) && ((v3.2.1 == v4.2.1) && ((v3.2.2.1 == v4.2.2.1) && ((v3.2.2.2.1 == v4.2.2.2.1) && (v3.2.2.2.2 == v4.2.2.2.2))))))
    .br v5 (
      .ret (.inr (.inl ()))) (
      let v6 : Int := (IntKind.i64.wrap (t5 + 1))
      .ret (.inl v6))) .fail) .fail) (
    .ret (.inr (.inr ())))
noncomputable def bautaref15_Same_l4 (N : Nat) (r0a : (List (Int × (Int × (Int × (Int × Bool)))))) (r1a : (List (Int × (Int × (Int × (Int × Bool)))))) (v : Int) : Option (Unit ⊕ Unit) := loopN (fun v => bautaref15_Same_l4_T N r0a r1a v) N v
noncomputable def bautaref15_Same_l9_T (N : Nat) (r0d : (List (ByteArray × Int))) (r1d : (List (ByteArray × Int))) (t6 : Int) : Tree (Int ⊕ (Unit ⊕ Unit)) :=
  let v1 : Int := (r0d.length : Int)
  let v2 : Bool := (ltI t6 v1)
  .br v2 (
    .br (inRange t6 r0d.length) (
    let v3 : (ByteArray × Int) := (r0d.getD t6.toNat (ByteArray.empty, 0))
    .br (inRange t6 r1d.length) (
    let v4 : (ByteArray × Int) := (r1d.getD t6.toNat (ByteArray.empty, 0))
    let v5 : Bool := (!((v3.1.toList == v4.1.toList) && (v3.2 == v4.2)))
    .br v5 (
      .ret (.inr (.inl ()))) (
      let v6 : Int := (IntKind.i64.wrap (t6 + 1))
      .ret (.inl v6))) .fail) .fail) (
    .ret (.inr (.inr ())))
noncomputable def bautaref15_Same_l9 (N : Nat) (r0d : (List (ByteArray × Int))) (r1d : (List (ByteArray × Int))) (v : Int) : Option (Unit ⊕ Unit) := loopN (fun v => bautaref15_Same_l9_T N r0d r1d v) N v
noncomputable def bautaref15_Same_j3_T (N : Nat) (r0a : (List (Int × (Int × (Int × (Int × Bool)))))) (r0d : (List (ByteArray × Int))) (r1a : (List (Int × (Int × (Int × (Int × Bool)))))) (r1d : (List (ByteArray × Int))) : Tree Bool :=
  .call (bautaref15_Same_l4 N r0a r1a 0) fun y1 => (
  .alt y1 (fun y2 => (
    .ret false)) (fun y3 => (
    .call (bautaref15_Same_l9 N r0d r1d 0) fun y4 => (
    .alt y4 (fun y5 => (
      .ret false)) (fun y6 => (
      .ret true))))))
noncomputable def bautaref15_Same_j3 (N : Nat) (r0a : (List (Int × (Int × (Int × (Int × Bool)))))) (r0d : (List (ByteArray × Int))) (r1a : (List (Int × (Int × (Int × (Int × Bool)))))) (r1d : (List (ByteArray × Int))) : Option Bool := (bautaref15_Same_j3_T N r0a r0d r1a r1d).run some
noncomputable def bautaref15_Same_T (N : Nat) (t0a : (List (Int × (Int × (Int × (Int × Bool)))))) (t0b : Int) (t0c : Int) (t0d : (List (ByteArray × Int))) (t1a : (List (Int × (Int × (Int × (Int × Bool)))))) (t1b : Int) (t1c : Int) (t1d : (List (ByteArray × Int))) : Tree Bool :=
  let v1 : Bool := (t0b != t1b)
  .br v1 (
    .ret false) (
    let v2 : Bool := (t0c != t1c)
    .br v2 (
      .ret false) (
      let v3 : Int := (t0a.length : Int)
      let v4 : Int := (t1a.length : Int)
      let v5 : Bool := (v3 != v4)
      .br v5 (
        .ret false) (
        let v6 : Int := (t0d.length : Int)
        let v7 : Int := (t1d.length : Int)
        let v8 : Bool := (v6 != v7)
        .br v8 (
          .ret false) (
          .call (bautaref15_Same_j3 N t0a t0d t1a t1d) fun y9 => (
          .ret y9)))))
noncomputable def bautaref15_Same (N : Nat) (t0a : (List (Int × (Int × (Int × (Int × Bool)))))) (t0b : Int) (t0c : Int) (t0d : (List (ByteArray × Int))) (t1a : (List (Int × (Int × (Int × (Int × Bool)))))) (t1b : Int) (t1c : Int) (t1d : (List (ByteArray × Int))) : Option Bool := (bautaref15_Same_T N t0a t0b t0c t0d t1a t1b t1c t1d).run some
/-! ### bauta/bautalaw17.short -/
noncomputable def bautalaw17_short_T (N : Nat) (t0 : (List Int)) : Tree (List Int) :=
  let v1 : Int := (t0.length : Int)
  let v2 : Bool := (ltI 100 v1)
  .br v2 (
    .br (leI 0 100 && leI 100 (t0.length : Int)) (
    let v3 : (List Int) := (t0.take 100)
    .br (ltI ((0 + (v3.length : Int)) * 4) 140737488355328) (
    .ret v3) .fail) .fail) (
    .br (ltI ((0 + (t0.length : Int)) * 4) 140737488355328) (
    .ret t0) .fail)
noncomputable def bautalaw17_short (N : Nat) (t0 : (List Int)) : Option (List Int) := (bautalaw17_short_T N t0).run some
/-! ### bauta/bautaref15.at -/
noncomputable def bautaref15_at_T (N : Nat) (t0 : (List Int)) (t1 : Int) : Tree Int :=
  let v1 : Int := (IntKind.i64.wrap t1)
  let v2 : Int := (t0.length : Int)
  let v3 : Bool := (ltI v1 v2)
  .br v3 (
    .br (inRange t1 t0.length) (
    let v4 : Int := (t0.getD t1.toNat 0)
    .ret v4) .fail) (
    .ret 0)
noncomputable def bautaref15_at (N : Nat) (t0 : (List Int)) (t1 : Int) : Option Int := (bautaref15_at_T N t0 t1).run some
/-! ### bauta/bautaref01.Bits -/
noncomputable def bautaref01_Bits_l3_T (N : Nat) (t0 : Int) (t4 : Int) (r0 : (List Bool)) : Tree ((Int × Int × (List Bool)) ⊕ (List Bool)) :=
  let v1 : Bool := (ltI t4 32)
  .br v1 (
    let v2 : Int := (t0.tmod 2)
    let v3 : Bool := (v2 == 1)
    .br (ltI (((r0.length : Int) + 1) * 1) 140737488355328) (
    let v4 : (List Bool) := (r0 ++ [v3])
    let v5 : Int := (IntKind.u32.wrap (t0.tdiv 2))
    let v6 : Int := (IntKind.i64.wrap (t4 + 1))
    .ret (.inl (v5, v6, v4))) .fail) (
    .ret (.inr r0))
noncomputable def bautaref01_Bits_l3 (N : Nat) (v : (Int × Int × (List Bool))) : Option (List Bool) := loopN (fun v => bautaref01_Bits_l3_T N v.1 v.2.1 v.2.2) N v
noncomputable def bautaref01_Bits_T (N : Nat) (t0 : Int) : Tree (List Bool) :=
  .call (bautaref01_Bits_l3 N (t0, 0, [])) fun y1 => (
  .ret y1)
noncomputable def bautaref01_Bits (N : Nat) (t0 : Int) : Option (List Bool) := (bautaref01_Bits_T N t0).run some
/-! ### bauta/bautaref01.Word -/
noncomputable def bautaref01_Word_l3_T (N : Nat) (t0 : (List Bool)) (t3 : Int) (t4 : Int) : Tree ((Int × Int) ⊕ Int) :=
  let v1 : Bool := (leI 0 t4)
  .br v1 (
    let v2 : Int := (IntKind.u32.wrap (t3 * 2))
    .br (inRange t4 t0.length) (
    let v3 : Bool := (t0.getD t4.toNat false)
    .br v3 (
      let v4 : Int := (IntKind.u32.wrap (v2 + 1))
      let v5 : Int := (IntKind.i64.wrap (t4 - 1))
      .ret (.inl (v4, v5))) (
      let v6 : Int := (IntKind.i64.wrap (t4 - 1))
      .ret (.inl (v2, v6)))) .fail) (
    .ret (.inr t3))
noncomputable def bautaref01_Word_l3 (N : Nat) (t0 : (List Bool)) (v : (Int × Int)) : Option Int := loopN (fun v => bautaref01_Word_l3_T N t0 v.1 v.2) N v
noncomputable def bautaref01_Word_T (N : Nat) (t0 : (List Bool)) : Tree Int :=
  let v1 : Int := (t0.length : Int)
  let v2 : Int := (IntKind.i64.wrap (v1 - 1))
  .call (bautaref01_Word_l3 N t0 (0, v2)) fun y3 => (
  .ret y3)
noncomputable def bautaref01_Word (N : Nat) (t0 : (List Bool)) : Option Int := (bautaref01_Word_T N t0).run some
/-! ### bauta/bautaref01.Shift -/
noncomputable def bautaref01_Shift_j14_T (N : Nat) (t13 : Int) (t50 : Bool) (r0 : (List Bool)) (r1 : (List Bool)) : Tree (List Bool) :=
  .br t50 (
    let v1 : Int := (IntKind.i64.wrap (t13 - 1))
    .br (inRange v1 r0.length) (
    let v2 : Bool := (r0.getD v1.toNat false)
    .br (inRange t13 r1.length) (
    let v3 : (List Bool) := (r1.set t13.toNat v2)
    .ret v3) .fail) .fail) (
    .ret r1)
noncomputable def bautaref01_Shift_j14 (N : Nat) (t13 : Int) (t50 : Bool) (r0 : (List Bool)) (r1 : (List Bool)) : Option (List Bool) := (bautaref01_Shift_j14_T N t13 t50 r0 r1).run some
noncomputable def bautaref01_Shift_j16_T (N : Nat) (t13 : Int) (t64 : Bool) (r0 : (List Bool)) (r1 : (List Bool)) : Tree (List Bool) :=
  .br t64 (
    let v1 : Int := (IntKind.i64.wrap (t13 + 1))
    .br (inRange v1 r0.length) (
    let v2 : Bool := (r0.getD v1.toNat false)
    .br (inRange t13 r1.length) (
    let v3 : (List Bool) := (r1.set t13.toNat v2)
    .ret v3) .fail) .fail) (
    .ret r1)
noncomputable def bautaref01_Shift_j16 (N : Nat) (t13 : Int) (t64 : Bool) (r0 : (List Bool)) (r1 : (List Bool)) : Option (List Bool) := (bautaref01_Shift_j16_T N t13 t64 r0 r1).run some
noncomputable def bautaref01_Shift_j15_T (N : Nat) (t0 : Int) (t13 : Int) (r0 : (List Bool)) (r1 : (List Bool)) : Tree (List Bool) :=
  let v1 : Bool := (ltI 0 t0)
  .br v1 (
    let v2 : Bool := (ltI t13 31)
    .call (bautaref01_Shift_j16 N t13 v2 r0 r1) fun y3 => (
    .ret y3)) (
    .call (bautaref01_Shift_j16 N t13 false r0 r1) fun y4 => (
    .ret y4))
noncomputable def bautaref01_Shift_j15 (N : Nat) (t0 : Int) (t13 : Int) (r0 : (List Bool)) (r1 : (List Bool)) : Option (List Bool) := (bautaref01_Shift_j15_T N t0 t13 r0 r1).run some
noncomputable def bautaref01_Shift_l11_T (N : Nat) (t0 : Int) (r0 : (List Bool)) (t13 : Int) (r1 : (List Bool)) : Tree ((Int × (List Bool)) ⊕ (List Bool)) :=
  let v1 : Bool := (ltI t13 32)
  .br v1 (
    let v2 : Bool := (t0 == 0)
    .br v2 (
      let v3 : Bool := (ltI 0 t13)
      .call (bautaref01_Shift_j14 N t13 v3 r0 r1) fun y4 => (
      .call (bautaref01_Shift_j15 N t0 t13 r0 y4) fun y5 => (
      let v6 : Int := (IntKind.i64.wrap (t13 + 1))
      .ret (.inl (v6, y5))))) (
      .call (bautaref01_Shift_j14 N t13 false r0 r1) fun y7 => (
      .call (bautaref01_Shift_j15 N t0 t13 r0 y7) fun y8 => (
      let v9 : Int := (IntKind.i64.wrap (t13 + 1))
      .ret (.inl (v9, y8)))))) (
    .ret (.inr r1))
noncomputable def bautaref01_Shift_l11 (N : Nat) (t0 : Int) (r0 : (List Bool)) (v : (Int × (List Bool))) : Option (List Bool) := loopN (fun v => bautaref01_Shift_l11_T N t0 r0 v.1 v.2) N v
noncomputable def bautaref01_Shift_j22_T (N : Nat) (t0 : Int) (r0 : (List Bool)) (r1 : (List Bool)) : Tree (List Bool) :=
  let v1 : Bool := (t0 == 3)
  .br v1 (
    .br (inRange 0 r0.length) (
    let v2 : Bool := (r0.getD 0 false)
    .br (inRange 31 r1.length) (
    let v3 : (List Bool) := (r1.set 31 v2)
    .ret v3) .fail) .fail) (
    .ret r1)
noncomputable def bautaref01_Shift_j22 (N : Nat) (t0 : Int) (r0 : (List Bool)) (r1 : (List Bool)) : Option (List Bool) := (bautaref01_Shift_j22_T N t0 r0 r1).run some
noncomputable def bautaref01_Shift_j20_T (N : Nat) (t0 : Int) (r0 : (List Bool)) (r1 : (List Bool)) : Tree (List Bool) :=
  let v1 : Bool := (t0 == 2)
  .br v1 (
    .br (inRange 31 r0.length) (
    let v2 : Bool := (r0.getD 31 false)
    .br (inRange 31 r1.length) (
    let v3 : (List Bool) := (r1.set 31 v2)
    .call (bautaref01_Shift_j22 N t0 r0 v3) fun y4 => (
    .ret y4)) .fail) .fail) (
    .call (bautaref01_Shift_j22 N t0 r0 r1) fun y5 => (
    .ret y5))
noncomputable def bautaref01_Shift_j20 (N : Nat) (t0 : Int) (r0 : (List Bool)) (r1 : (List Bool)) : Option (List Bool) := (bautaref01_Shift_j20_T N t0 r0 r1).run some
noncomputable def bautaref01_Shift_j9_T (N : Nat) (t0 : Int) (t11 : Int) (r0 : (List Bool)) : Tree (Bool × Int × (List Bool)) :=
  let v1 : (List Bool) := [false, false, false, false, false, false, false, false, false, false, false, false, false, false, false, false, false, false, false, false, false, false, false, false, false, false, false, false, false, false, false, false]
  .call (bautaref01_Shift_l11 N t0 r0 (0, v1)) fun y2 => (
  let v3 : Bool := (t0 == 0)
  .br v3 (
    .br (inRange 31 r0.length) (
    let v4 : Bool := (r0.getD 31 false)
    .call (bautaref01_Shift_j20 N t0 r0 y2) fun y5 => (
    let v6 : Int := (IntKind.u32.wrap (t11 + 1))
    .ret (v4, v6, y5))) .fail) (
    .br (inRange 0 r0.length) (
    let v7 : Bool := (r0.getD 0 false)
    .call (bautaref01_Shift_j20 N t0 r0 y2) fun y8 => (
    let v9 : Int := (IntKind.u32.wrap (t11 + 1))
    .ret (v7, v9, y8))) .fail))
noncomputable def bautaref01_Shift_j9 (N : Nat) (t0 : Int) (t11 : Int) (r0 : (List Bool)) : Option (Bool × Int × (List Bool)) := (bautaref01_Shift_j9_T N t0 t11 r0).run some
noncomputable def bautaref01_Shift_l7_T (N : Nat) (t0 : Int) (t2 : Int) (t3 : Bool) (t11 : Int) (r0 : (List Bool)) : Tree ((Bool × Int × (List Bool)) ⊕ (Bool × (List Bool))) :=
  let v1 : Bool := (ltI t11 t2)
  .br v1 (
    let v2 : Bool := (ltI t11 70)
    .br v2 (
      .call (bautaref01_Shift_j9 N t0 t11 r0) fun y3 => (
      .ret (.inl (y3.1, y3.2.1, y3.2.2)))) (
      .ret (.inr (t3, r0)))) (
    .ret (.inr (t3, r0)))
noncomputable def bautaref01_Shift_l7 (N : Nat) (t0 : Int) (t2 : Int) (v : (Bool × Int × (List Bool))) : Option (Bool × (List Bool)) := loopN (fun v => bautaref01_Shift_l7_T N t0 t2 v.1 v.2.1 v.2.2) N v
noncomputable def bautaref01_Shift_j5_T (N : Nat) (t0 : Int) (t1 : Int) (t2 : Int) (t3 : Bool) : Tree (Int × Bool) :=
  .call (bautaref01_Bits N t1) fun y1 => (
  .call (bautaref01_Shift_l7 N t0 t2 (t3, 0, y1)) fun y2 => (
  .call (bautaref01_Word N y2.2) fun y3 => (
  .ret (y3, y2.1))))
noncomputable def bautaref01_Shift_j5 (N : Nat) (t0 : Int) (t1 : Int) (t2 : Int) (t3 : Bool) : Option (Int × Bool) := (bautaref01_Shift_j5_T N t0 t1 t2 t3).run some
noncomputable def bautaref01_Shift_j3_T (N : Nat) (t0 : Int) (t1 : Int) (t2 : Int) (t3 : Bool) : Tree (Int × Bool) :=
  let v1 : Bool := (t0 == 3)
  .br v1 (
    let v2 : Bool := (ltI 64 t2)
    .br v2 (
      let v3 : Int := (t2.tmod 32)
      let v4 : Int := (IntKind.u32.wrap (32 + v3))
      .call (bautaref01_Shift_j5 N t0 t1 v4 t3) fun y5 => (
      .ret (y5.1, y5.2))) (
      .call (bautaref01_Shift_j5 N t0 t1 t2 t3) fun y6 => (
      .ret (y6.1, y6.2)))) (
    .call (bautaref01_Shift_j5 N t0 t1 t2 t3) fun y7 => (
    .ret (y7.1, y7.2)))
noncomputable def bautaref01_Shift_j3 (N : Nat) (t0 : Int) (t1 : Int) (t2 : Int) (t3 : Bool) : Option (Int × Bool) := (bautaref01_Shift_j3_T N t0 t1 t2 t3).run some
noncomputable def bautaref01_Shift_T (N : Nat) (t0 : Int) (t1 : Int) (t2 : Int) (t3 : Bool) : Tree (Int × Bool) :=
  let v1 : Bool := (ltI t0 0)
  .br v1 (
    .ret (0, false)) (
    let v2 : Bool := (ltI 3 t0)
    .br v2 (
      .ret (0, false)) (
      .call (bautaref01_Shift_j3 N t0 t1 t2 t3) fun y3 => (
      .ret (y3.1, y3.2))))
noncomputable def bautaref01_Shift (N : Nat) (t0 : Int) (t1 : Int) (t2 : Int) (t3 : Bool) : Option (Int × Bool) := (bautaref01_Shift_T N t0 t1 t2 t3).run some
/-! ### bauta/bautaref01.Rot -/
noncomputable def bautaref01_Rot_l3_T (N : Nat) (t1 : Int) (t6 : Int) (r0 : (List Bool)) : Tree ((Int × (List Bool)) ⊕ (List Bool)) :=
  let v1 : Int := (t1.tmod 32)
  let v2 : Bool := (ltI t6 v1)
  .br v2 (
    .br (inRange 31 r0.length) (
    let v3 : Bool := (r0.getD 31 false)
    .br (leI 0 31 && leI 31 (r0.length : Int)) (
    .br (ltI ((1 + (((r0.drop 0).take 31).length : Int)) * 1) 140737488355328) (
    let v4 : (List Bool) := ([v3] ++ ((r0.drop 0).take 31))
    let v5 : Int := (IntKind.u32.wrap (t6 + 1))
    .ret (.inl (v5, v4))) .fail) .fail) .fail) (
    .ret (.inr r0))
noncomputable def bautaref01_Rot_l3 (N : Nat) (t1 : Int) (v : (Int × (List Bool))) : Option (List Bool) := loopN (fun v => bautaref01_Rot_l3_T N t1 v.1 v.2) N v
noncomputable def bautaref01_Rot_T (N : Nat) (t0 : Int) (t1 : Int) : Tree Int :=
  .call (bautaref01_Bits N t0) fun y1 => (
  .call (bautaref01_Rot_l3 N t1 (0, y1)) fun y2 => (
  .call (bautaref01_Word N y2) fun y3 => (
  .ret y3)))
noncomputable def bautaref01_Rot (N : Nat) (t0 : Int) (t1 : Int) : Option Int := (bautaref01_Rot_T N t0 t1).run some
/-! ### bauta/bautaref15.Words -/
noncomputable def bautaref15_Words_j11_T (N : Nat) (t1 : (List Int)) (t2 : (List Int)) (t11 : Int) (t12 : Int) (r1 : (List Int)) (r2a : Int) (r2d : Int) : Tree (List Int) :=
  let v1 : Bool := (r2a == 0)
  .br v1 (
    .br (ltI (((r1.length : Int) + 1) * 4) 140737488355328) (
    let v2 : (List Int) := (r1 ++ [r2d])
    .ret v2) .fail) (
    let v3 : Bool := (r2a == 1)
    .br v3 (
      .call (bautaref15_at N t1 r2d) fun y4 => (
      .br (ltI (((r1.length : Int) + 1) * 4) 140737488355328) (
      let v5 : (List Int) := (r1 ++ [y4])
      .ret v5) .fail)) (
      let v6 : Bool := (r2a == 2)
      .br v6 (
        .call (bautaref15_at N t2 r2d) fun y7 => (
        .br (ltI (((r1.length : Int) + 1) * 4) 140737488355328) (
        let v8 : (List Int) := (r1 ++ [y7])
        .ret v8) .fail)) (
        let v9 : Bool := (r2a == 3)
        .br v9 (
          let v10 : Int := (IntKind.u32.wrap (((BitVec.ofInt 32 t11) &&& (BitVec.ofInt 32 t12)).toNat : Int))
          .br (ltI (((r1.length : Int) + 1) * 4) 140737488355328) (
          let v11 : (List Int) := (r1 ++ [v10])
          .ret v11) .fail) (
          let v12 : Bool := (r2a == 4)
          .br v12 (
            let v13 : Int := (IntKind.u32.wrap (((BitVec.ofInt 32 t11) ^^^ (BitVec.ofInt 32 t12)).toNat : Int))
            .br (ltI (((r1.length : Int) + 1) * 4) 140737488355328) (
            let v14 : (List Int) := (r1 ++ [v13])
            .ret v14) .fail) (
            let v15 : Bool := (r2a == 5)
            .br v15 (
              let v16 : Int := (IntKind.u32.wrap (4294967295 - t11))
              .br (ltI (((r1.length : Int) + 1) * 4) 140737488355328) (
              let v17 : (List Int) := (r1 ++ [v16])
              .ret v17) .fail) (
              let v18 : Bool := (r2a == 6)
              .br v18 (
                .call (bautaref01_Shift N 0 t11 r2d false) fun y19 => (
                .br (ltI (((r1.length : Int) + 1) * 4) 140737488355328) (
                let v20 : (List Int) := (r1 ++ [y19.1])
                .ret v20) .fail)) (
                let v21 : Bool := (r2a == 7)
                .br v21 (
                  .call (bautaref01_Shift N 1 t11 r2d false) fun y22 => (
                  .br (ltI (((r1.length : Int) + 1) * 4) 140737488355328) (
                  let v23 : (List Int) := (r1 ++ [y22.1])
                  .ret v23) .fail)) (
                  let v24 : Bool := (r2a == 8)
                  .br v24 (
                    .call (bautaref01_Rot N t11 r2d) fun y25 => (
                    .br (ltI (((r1.length : Int) + 1) * 4) 140737488355328) (
                    let v26 : (List Int) := (r1 ++ [y25])
                    .ret v26) .fail)) (
                    let v27 : Bool := (r2a == 9)
                    .br v27 (
                      let v28 : Int := (IntKind.u32.wrap (((BitVec.ofInt 32 t11) ||| (BitVec.ofInt 32 t12)).toNat : Int))
                      .br (ltI (((r1.length : Int) + 1) * 4) 140737488355328) (
                      let v29 : (List Int) := (r1 ++ [v28])
                      .ret v29) .fail) (
                      let v30 : Bool := (r2a == 10)
                      .br v30 (
                        let v31 : Int := (IntKind.u32.wrap (t11 + t12))
                        .br (ltI (((r1.length : Int) + 1) * 4) 140737488355328) (
                        let v32 : (List Int) := (r1 ++ [v31])
                        .ret v32) .fail) (
                        let v33 : Int := (IntKind.u32.wrap (t11 - t12))
                        .br (ltI (((r1.length : Int) + 1) * 4) 140737488355328) (
                        let v34 : (List Int) := (r1 ++ [v33])
                        .ret v34) .fail)))))))))))
noncomputable def bautaref15_Words_j11 (N : Nat) (t1 : (List Int)) (t2 : (List Int)) (t11 : Int) (t12 : Int) (r1 : (List Int)) (r2a : Int) (r2d : Int) : Option (List Int) := (bautaref15_Words_j11_T N t1 t2 t11 t12 r1 r2a r2d).run some
noncomputable def bautaref15_Words_l5_T (N : Nat) (t1 : (List Int)) (t2 : (List Int)) (r0a : (List (Int × (Int × (Int × (Int × Bool)))))) (t8 : Int) (r1 : (List Int)) : Tree ((Int × (List Int)) ⊕ (List Int)) :=
  let v1 : Int := (r0a.length : Int)
  let v2 : Bool := (ltI t8 v1)
  .br v2 (
    .br (inRange t8 r0a.length) (
    let v3 : (Int × (Int × (Int × (Int × Bool)))) := (r0a.getD t8.toNat (0, (0, (0, (0, false)))))
    let v4 : Bool := (ltI 0 t8)
    .br v4 (
      .br (inRange v3.2.1 r1.length) (
      let v5 : Int := (r1.getD v3.2.1.toNat 0)
      .br (inRange v3.2.2.1 r1.length) (
      let v6 : Int := (r1.getD v3.2.2.1.toNat 0)
      .call (bautaref15_Words_j11 N t1 t2 v5 v6 r1 v3.1 v3.2.2.2.1) fun y7 => (
      let v8 : Int := (IntKind.i64.wrap (t8 + 1))
      .ret (.inl (v8, y7)))) .fail) .fail) (
      .call (bautaref15_Words_j11 N t1 t2 0 0 r1 v3.1 v3.2.2.2.1) fun y9 => (
      let v10 : Int := (IntKind.i64.wrap (t8 + 1))
      .ret (.inl (v10, y9))))) .fail) (
    .ret (.inr r1))
noncomputable def bautaref15_Words_l5 (N : Nat) (t1 : (List Int)) (t2 : (List Int)) (r0a : (List (Int × (Int × (Int × (Int × Bool)))))) (v : (Int × (List Int))) : Option (List Int) := loopN (fun v => bautaref15_Words_l5_T N t1 t2 r0a v.1 v.2) N v
noncomputable def bautaref15_Words_T (N : Nat) (t0a : (List (Int × (Int × (Int × (Int × Bool)))))) (t0b : Int) (t0c : Int) (t0d : (List (ByteArray × Int))) (t1 : (List Int)) (t2 : (List Int)) : Tree (List Int) :=
  .call (bautaref15_Can N t0a t0b t0c t0d) fun y1 => (
  let v2 : Bool := (!y1)
  .br v2 (
    .ret []) (
    .call (bautaref15_Words_l5 N t1 t2 t0a (0, [])) fun y3 => (
    .ret y3)))
noncomputable def bautaref15_Words (N : Nat) (t0a : (List (Int × (Int × (Int × (Int × Bool)))))) (t0b : Int) (t0c : Int) (t0d : (List (ByteArray × Int))) (t1 : (List Int)) (t2 : (List Int)) : Option (List Int) := (bautaref15_Words_T N t0a t0b t0c t0d t1 t2).run some
/-! ### bauta/bautaref15.Outs -/
noncomputable def bautaref15_Outs_j5_T (N : Nat) (t9 : Int) (r0d : (List (ByteArray × Int))) (r1 : (List Int)) (r2 : (List Int)) : Tree (Int × (List Int)) :=
  .br (inRange t9 r0d.length) (
  let v1 : (ByteArray × Int) := (r0d.getD t9.toNat (ByteArray.empty, 0))
  .br (inRange v1.2 r1.length) (
  let v2 : Int := (r1.getD v1.2.toNat 0)
  .br (ltI (((r2.length : Int) + 1) * 4) 140737488355328) (
  let v3 : (List Int) := (r2 ++ [v2])
  let v4 : Int := (IntKind.i64.wrap (t9 + 1))
  .ret (v4, v3)) .fail) .fail) .fail
noncomputable def bautaref15_Outs_j5 (N : Nat) (t9 : Int) (r0d : (List (ByteArray × Int))) (r1 : (List Int)) (r2 : (List Int)) : Option (Int × (List Int)) := (bautaref15_Outs_j5_T N t9 r0d r1 r2).run some
noncomputable def bautaref15_Outs_l3_T (N : Nat) (r0a : (List (Int × (Int × (Int × (Int × Bool)))))) (r0b : Int) (r0c : Int) (r0d : (List (ByteArray × Int))) (r1 : (List Int)) (t9 : Int) (r2 : (List Int)) : Tree ((Int × (List Int)) ⊕ (List Int)) :=
  let v1 : Int := (r0d.length : Int)
  let v2 : Bool := (ltI t9 v1)
  .br v2 (
    let v3 : Int := (r1.length : Int)
    let v4 : Int := (r0a.length : Int)
    let v5 : Bool := (v3 == v4)
    .br v5 (
      .call (bautaref15_Can N r0a r0b r0c r0d) fun y6 => (
      .br y6 (
        .call (bautaref15_Outs_j5 N t9 r0d r1 r2) fun y7 => (
        .ret (.inl (y7.1, y7.2)))) (
        .ret (.inr r2)))) (
      .ret (.inr r2))) (
    .ret (.inr r2))
noncomputable def bautaref15_Outs_l3 (N : Nat) (r0a : (List (Int × (Int × (Int × (Int × Bool)))))) (r0b : Int) (r0c : Int) (r0d : (List (ByteArray × Int))) (r1 : (List Int)) (v : (Int × (List Int))) : Option (List Int) := loopN (fun v => bautaref15_Outs_l3_T N r0a r0b r0c r0d r1 v.1 v.2) N v
noncomputable def bautaref15_Outs_T (N : Nat) (t0a : (List (Int × (Int × (Int × (Int × Bool)))))) (t0b : Int) (t0c : Int) (t0d : (List (ByteArray × Int))) (t1 : (List Int)) (t2 : (List Int)) : Tree (List Int) :=
  .call (bautaref15_Words N t0a t0b t0c t0d t1 t2) fun y1 => (
  .call (bautaref15_Outs_l3 N t0a t0b t0c t0d y1 (0, [])) fun y2 => (
  .ret y2))
noncomputable def bautaref15_Outs (N : Nat) (t0a : (List (Int × (Int × (Int × (Int × Bool)))))) (t0b : Int) (t0c : Int) (t0d : (List (ByteArray × Int))) (t1 : (List Int)) (t2 : (List Int)) : Option (List Int) := (bautaref15_Outs_T N t0a t0b t0c t0d t1 t2).run some
/-! ### bauta/bautaref05.Same -/
noncomputable def bautaref05_Same_l4_T (N : Nat) (t0 : (List Int)) (t1 : (List Int)) (t5 : Int) : Tree (Int ⊕ (Unit ⊕ Unit)) :=
  let v1 : Int := (t0.length : Int)
  let v2 : Bool := (ltI t5 v1)
  .br v2 (
    .br (inRange t5 t0.length) (
    let v3 : Int := (t0.getD t5.toNat 0)
    .br (inRange t5 t1.length) (
    let v4 : Int := (t1.getD t5.toNat 0)
    let v5 : Bool := (v3 != v4)
    .br v5 (
      .ret (.inr (.inl ()))) (
      let v6 : Int := (IntKind.i64.wrap (t5 + 1))
      .ret (.inl v6))) .fail) .fail) (
    .ret (.inr (.inr ())))
noncomputable def bautaref05_Same_l4 (N : Nat) (t0 : (List Int)) (t1 : (List Int)) (v : Int) : Option (Unit ⊕ Unit) := loopN (fun v => bautaref05_Same_l4_T N t0 t1 v) N v
noncomputable def bautaref05_Same_T (N : Nat) (t0 : (List Int)) (t1 : (List Int)) : Tree Bool :=
  let v1 : Int := (t0.length : Int)
  let v2 : Int := (t1.length : Int)
  let v3 : Bool := (v1 != v2)
  .br v3 (
    .ret false) (
    .call (bautaref05_Same_l4 N t0 t1 0) fun y4 => (
    .alt y4 (fun y5 => (
      .ret false)) (fun y6 => (
      .ret true))))
noncomputable def bautaref05_Same (N : Nat) (t0 : (List Int)) (t1 : (List Int)) : Option Bool := (bautaref05_Same_T N t0 t1).run some
/-! ### bauta/bautalaw17.FoldSame -/
noncomputable def bautalaw17_FoldSame_l9_T (N : Nat) (r0a : (List (Int × (Int × (Int × (Int × Bool)))))) (r0d : (List (ByteArray × Int))) (r1a : (List (Int × (Int × (Int × (Int × Bool)))))) (r1d : (List (ByteArray × Int))) (t8 : Int) : Tree (Int ⊕ (Unit ⊕ Unit)) :=
  let v1 : Int := (r0d.length : Int)
  let v2 : Bool := (ltI t8 v1)
  .br v2 (
    .br (inRange t8 r1d.length) (
    let v3 : (ByteArray × Int) := (r1d.getD t8.toNat (ByteArray.empty, 0))
    .br (inRange v3.2 r1a.length) (
    let v4 : (Int × (Int × (Int × (Int × Bool)))) := (r1a.getD v3.2.toNat (0, (0, (0, (0, false)))))
    .br v4.2.2.2.2 (
      .br (inRange t8 r0d.length) (
      let v5 : (ByteArray × Int) := (r0d.getD t8.toNat (ByteArray.empty, 0))
      .br (inRange v5.2 r0a.length) (
      let v6 : (Int × (Int × (Int × (Int × Bool)))) := (r0a.getD v5.2.toNat (0, (0, (0, (0, false)))))
      let v7 : Bool := (!v6.2.2.2.2)
      .br v7 (
        .ret (.inr (.inl ()))) (
        .br (inRange t8 r1d.length) (
        let v8 : (ByteArray × Int) := (r1d.getD t8.toNat (ByteArray.empty, 0))
        .br (inRange t8 r0d.length) (
        let v9 : (ByteArray × Int) := (r0d.getD t8.toNat (ByteArray.empty, 0))
        let v10 : Bool := (!(v8.1.toList == v9.1.toList))
        .br v10 (
          .ret (.inr (.inl ()))) (
          let v11 : Int := (IntKind.i64.wrap (t8 + 1))
          .ret (.inl v11))) .fail) .fail)) .fail) .fail) (
      .br (inRange t8 r1d.length) (
      let v12 : (ByteArray × Int) := (r1d.getD t8.toNat (ByteArray.empty, 0))
      .br (inRange t8 r0d.length) (
      let v13 : (ByteArray × Int) := (r0d.getD t8.toNat (ByteArray.empty, 0))
      let v14 : Bool := (!(v12.1.toList == v13.1.toList))
      .br v14 (
        .ret (.inr (.inl ()))) (
        let v15 : Int := (IntKind.i64.wrap (t8 + 1))
        .ret (.inl v15))) .fail) .fail)) .fail) .fail) (
    .ret (.inr (.inr ())))
noncomputable def bautalaw17_FoldSame_l9 (N : Nat) (r0a : (List (Int × (Int × (Int × (Int × Bool)))))) (r0d : (List (ByteArray × Int))) (r1a : (List (Int × (Int × (Int × (Int × Bool)))))) (r1d : (List (ByteArray × Int))) (v : Int) : Option (Unit ⊕ Unit) := loopN (fun v => bautalaw17_FoldSame_l9_T N r0a r0d r1a r1d v) N v
noncomputable def bautalaw17_FoldSame_j8_T (N : Nat) (t1 : (List Int)) (t2 : (List Int)) (r0a : (List (Int × (Int × (Int × (Int × Bool)))))) (r0b : Int) (r0c : Int) (r0d : (List (ByteArray × Int))) (r1a : (List (Int × (Int × (Int × (Int × Bool)))))) (r1b : Int) (r1c : Int) (r1d : (List (ByteArray × Int))) : Tree Bool :=
  .call (bautalaw17_FoldSame_l9 N r0a r0d r1a r1d 0) fun y1 => (
  .alt y1 (fun y2 => (
    .ret false)) (fun y3 => (
    .call (bautalaw17_short N t1) fun y4 => (
    .call (bautalaw17_short N t2) fun y5 => (
    .call (bautaref15_Outs N r1a r1b r1c r1d y4 y5) fun y6 => (
    .call (bautaref15_Outs N r0a r0b r0c r0d y4 y5) fun y7 => (
    .call (bautaref05_Same N y6 y7) fun y8 => (
    .br y8 (
      .call (bautalaw17_lives N) fun y9 => (
      .ret y9)) (
      .ret false)))))))))
noncomputable def bautalaw17_FoldSame_j8 (N : Nat) (t1 : (List Int)) (t2 : (List Int)) (r0a : (List (Int × (Int × (Int × (Int × Bool)))))) (r0b : Int) (r0c : Int) (r0d : (List (ByteArray × Int))) (r1a : (List (Int × (Int × (Int × (Int × Bool)))))) (r1b : Int) (r1c : Int) (r1d : (List (ByteArray × Int))) : Option Bool := (bautalaw17_FoldSame_j8_T N t1 t2 r0a r0b r0c r0d r1a r1b r1c r1d).run some
noncomputable def bautalaw17_FoldSame_T (N : Nat) (t0a : (List (Int × (Int × (Int × (Int × Bool)))))) (t0b : Int) (t0c : Int) (t0d : (List (ByteArray × Int))) (t1 : (List Int)) (t2 : (List Int)) : Tree Bool :=
  .call (bautalaw17_few N t0a t0d) fun y1 => (
  let v2 : Bool := (!y1)
  .br v2 (
    .call (bautalaw17_lives N) fun y3 => (
    .ret y3)) (
    .call (bautaref15_Own N t0a t0d) fun y4 => (
    .call (fold_Circuit N t0a t0b t0c t0d) fun y5 => (
    .call (bautalaw17_plain N t0a t0b t0c t0d) fun y6 => (
    let v7 : Bool := (!y6)
    .br v7 (
      .call (bautaref15_Same N t0a t0b t0c t0d y5.1 t0b t0c y5.2) fun y8 => (
      .br y8 (
        .call (bautalaw17_lives N) fun y9 => (
        .ret y9)) (
        .ret false))) (
      let v10 : Int := (y5.2.length : Int)
      let v11 : Int := (t0d.length : Int)
      let v12 : Bool := (v10 != v11)
      .br v12 (
        .ret false) (
        .call (bautaref15_Can N y5.1 t0b t0c y5.2) fun y13 => (
        let v14 : Bool := (!y13)
        .br v14 (
          .ret false) (
          .call (bautalaw17_FoldSame_j8 N t1 t2 t0a t0b t0c t0d y5.1 t0b t0c y5.2) fun y15 => (
          .ret y15))))))))))
noncomputable def bautalaw17_FoldSame (N : Nat) (t0a : (List (Int × (Int × (Int × (Int × Bool)))))) (t0b : Int) (t0c : Int) (t0d : (List (ByteArray × Int))) (t1 : (List Int)) (t2 : (List Int)) : Option Bool := (bautalaw17_FoldSame_T N t0a t0b t0c t0d t1 t2).run some
/-! ### bauta/bautaref17.Used -/
noncomputable def bautaref17_Used_l3_T (N : Nat) (r0d : (List (ByteArray × Int))) (t4 : Int) (r1 : (List Bool)) : Tree ((Int × (List Bool)) ⊕ (List Bool)) :=
  let v1 : Int := (r0d.length : Int)
  let v2 : Bool := (ltI t4 v1)
  .br v2 (
    .br (inRange t4 r0d.length) (
    let v3 : (ByteArray × Int) := (r0d.getD t4.toNat (ByteArray.empty, 0))
    .br (inRange v3.2 r1.length) (
    let v4 : (List Bool) := (r1.set v3.2.toNat true)
    let v5 : Int := (IntKind.i64.wrap (t4 + 1))
    .ret (.inl (v5, v4))) .fail) .fail) (
    .ret (.inr r1))
noncomputable def bautaref17_Used_l3 (N : Nat) (r0d : (List (ByteArray × Int))) (v : (Int × (List Bool))) : Option (List Bool) := loopN (fun v => bautaref17_Used_l3_T N r0d v.1 v.2) N v
noncomputable def bautaref17_Used_j14_T (N : Nat) (t5 : Int) (r1 : (List Bool)) (r2a : Int) (r2c : Int) : Tree (List Bool) :=
  .br (inRange t5 r1.length) (
  let v1 : Bool := (r1.getD t5.toNat false)
  .br v1 (
    .call (bautaref15_Takes N r2a) fun y2 => (
    let v3 : Bool := (ltI 1 y2)
    .br v3 (
      .br (inRange r2c r1.length) (
      let v4 : (List Bool) := (r1.set r2c.toNat true)
      .ret v4) .fail) (
      .ret r1))) (
    .ret r1)) .fail
noncomputable def bautaref17_Used_j14 (N : Nat) (t5 : Int) (r1 : (List Bool)) (r2a : Int) (r2c : Int) : Option (List Bool) := (bautaref17_Used_j14_T N t5 r1 r2a r2c).run some
noncomputable def bautaref17_Used_j12_T (N : Nat) (t5 : Int) (r1 : (List Bool)) (r2a : Int) (r2b : Int) (r2c : Int) : Tree (List Bool) :=
  .br (inRange t5 r1.length) (
  let v1 : Bool := (r1.getD t5.toNat false)
  .br v1 (
    .call (bautaref15_Takes N r2a) fun y2 => (
    let v3 : Bool := (ltI 0 y2)
    .br v3 (
      .br (inRange r2b r1.length) (
      let v4 : (List Bool) := (r1.set r2b.toNat true)
      .call (bautaref17_Used_j14 N t5 v4 r2a r2c) fun y5 => (
      .ret y5)) .fail) (
      .call (bautaref17_Used_j14 N t5 r1 r2a r2c) fun y6 => (
      .ret y6)))) (
    .call (bautaref17_Used_j14 N t5 r1 r2a r2c) fun y7 => (
    .ret y7))) .fail
noncomputable def bautaref17_Used_j12 (N : Nat) (t5 : Int) (r1 : (List Bool)) (r2a : Int) (r2b : Int) (r2c : Int) : Option (List Bool) := (bautaref17_Used_j12_T N t5 r1 r2a r2b r2c).run some
noncomputable def bautaref17_Used_l7_T (N : Nat) (r0a : (List (Int × (Int × (Int × (Int × Bool)))))) (t5 : Int) (r1 : (List Bool)) : Tree ((Int × (List Bool)) ⊕ (List Bool)) :=
  let v1 : Bool := (leI 0 t5)
  .br v1 (
    .br (inRange t5 r0a.length) (
    let v2 : (Int × (Int × (Int × (Int × Bool)))) := (r0a.getD t5.toNat (0, (0, (0, (0, false)))))
    let v3 : Bool := (v2.1 == 1)
    .br v3 (
      .br (inRange t5 r1.length) (
      let v4 : (List Bool) := (r1.set t5.toNat true)
      .call (bautaref17_Used_j12 N t5 v4 v2.1 v2.2.1 v2.2.2.1) fun y5 => (
      let v6 : Int := (IntKind.i64.wrap (t5 - 1))
      .ret (.inl (v6, y5)))) .fail) (
      let v7 : Bool := (v2.1 == 2)
      .br v7 (
        .br (inRange t5 r1.length) (
        let v8 : (List Bool) := (r1.set t5.toNat true)
        .call (bautaref17_Used_j12 N t5 v8 v2.1 v2.2.1 v2.2.2.1) fun y9 => (
        let v10 : Int := (IntKind.i64.wrap (t5 - 1))
        .ret (.inl (v10, y9)))) .fail) (
        .call (bautaref17_Used_j12 N t5 r1 v2.1 v2.2.1 v2.2.2.1) fun y11 => (
        let v12 : Int := (IntKind.i64.wrap (t5 - 1))
        .ret (.inl (v12, y11)))))) .fail) (
    .ret (.inr r1))
noncomputable def bautaref17_Used_l7 (N : Nat) (r0a : (List (Int × (Int × (Int × (Int × Bool)))))) (v : (Int × (List Bool))) : Option (List Bool) := loopN (fun v => bautaref17_Used_l7_T N r0a v.1 v.2) N v
noncomputable def bautaref17_Used_T (N : Nat) (t0a : (List (Int × (Int × (Int × (Int × Bool)))))) (t0d : (List (ByteArray × Int))) : Tree (List Bool) :=
  let v1 : Int := (t0a.length : Int)
  .br (leI 0 v1 && (leI v1 v1 && (ltI (v1 * 1) 140737488355328 && ltI v1 140737488355328))) (
  let v2 : (List Bool) := (List.replicate v1.toNat false)
  .call (bautaref17_Used_l3 N t0d (0, v2)) fun y3 => (
  let v4 : Int := (t0a.length : Int)
  let v5 : Int := (IntKind.i64.wrap (v4 - 1))
  .call (bautaref17_Used_l7 N t0a (v5, y3)) fun y6 => (
  .ret y6))) .fail
noncomputable def bautaref17_Used (N : Nat) (t0a : (List (Int × (Int × (Int × (Int × Bool)))))) (t0d : (List (ByteArray × Int))) : Option (List Bool) := (bautaref17_Used_T N t0a t0d).run some
/-! ### bauta/bautaref17.Dead -/
noncomputable def bautaref17_Dead_l6_T (N : Nat) (r1 : (List Bool)) (t5 : Int) (r0 : (List Int)) : Tree ((Int × (List Int)) ⊕ (List Int)) :=
  let v1 : Int := (r1.length : Int)
  let v2 : Bool := (ltI t5 v1)
  .br v2 (
    .br (inRange t5 r1.length) (
    let v3 : Bool := (r1.getD t5.toNat false)
    let v4 : Bool := (!v3)
    .br v4 (
      .br (ltI (((r0.length : Int) + 1) * 8) 140737488355328) (
      let v5 : (List Int) := (r0 ++ [t5])
      let v6 : Int := (IntKind.i64.wrap (t5 + 1))
      .ret (.inl (v6, v5))) .fail) (
      let v7 : Int := (IntKind.i64.wrap (t5 + 1))
      .ret (.inl (v7, r0)))) .fail) (
    .ret (.inr r0))
noncomputable def bautaref17_Dead_l6 (N : Nat) (r1 : (List Bool)) (v : (Int × (List Int))) : Option (List Int) := loopN (fun v => bautaref17_Dead_l6_T N r1 v.1 v.2) N v
noncomputable def bautaref17_Dead_T (N : Nat) (t0a : (List (Int × (Int × (Int × (Int × Bool)))))) (t0b : Int) (t0c : Int) (t0d : (List (ByteArray × Int))) : Tree (List Int) :=
  .call (bautaref15_Can N t0a t0b t0c t0d) fun y1 => (
  let v2 : Bool := (!y1)
  .br v2 (
    .ret []) (
    .call (bautaref17_Used N t0a t0d) fun y3 => (
    .call (bautaref17_Dead_l6 N y3 (0, [])) fun y4 => (
    .ret y4))))
noncomputable def bautaref17_Dead (N : Nat) (t0a : (List (Int × (Int × (Int × (Int × Bool)))))) (t0b : Int) (t0c : Int) (t0d : (List (ByteArray × Int))) : Option (List Int) := (bautaref17_Dead_T N t0a t0b t0c t0d).run some
/-! ### bauta/bautaref17.alike -/
noncomputable def bautaref17_alike_j3_T (N : Nat) (r0a : Int) (r0b : Int) (r0c : Int) (r1b : Int) (r1c : Int) : Tree Bool :=
  let v1 : Bool := (r0b == r1b)
  .br v1 (
    let v2 : Bool := (r0c == r1c)
    .br v2 (
      .ret true) (
      let v3 : Bool := (r0a == 3)
      .br v3 (
        let v4 : Bool := (r0b == r1c)
        .br v4 (
          let v5 : Bool := (r0c == r1b)
          .ret v5) (
          .ret false)) (
        let v6 : Bool := (r0a == 4)
        .br v6 (
          let v7 : Bool := (r0b == r1c)
          .br v7 (
            let v8 : Bool := (r0c == r1b)
            .ret v8) (
            .ret false)) (
          .ret false)))) (
    let v9 : Bool := (r0a == 3)
    .br v9 (
      let v10 : Bool := (r0b == r1c)
      .br v10 (
        let v11 : Bool := (r0c == r1b)
        .ret v11) (
        .ret false)) (
      let v12 : Bool := (r0a == 4)
      .br v12 (
        let v13 : Bool := (r0b == r1c)
        .br v13 (
          let v14 : Bool := (r0c == r1b)
          .ret v14) (
          .ret false)) (
        .ret false)))
noncomputable def bautaref17_alike_j3 (N : Nat) (r0a : Int) (r0b : Int) (r0c : Int) (r1b : Int) (r1c : Int) : Option Bool := (bautaref17_alike_j3_T N r0a r0b r0c r1b r1c).run some
noncomputable def bautaref17_alike_T (N : Nat) (t0a : Int) (t0b : Int) (t0c : Int) (t0d : Int) (t1a : Int) (t1b : Int) (t1c : Int) (t1d : Int) : Tree Bool :=
  let v1 : Bool := (t0a != t1a)
  .br v1 (
    .ret false) (
    let v2 : Bool := (t0d != t1d)
    .br v2 (
      .ret false) (
      .call (bautaref17_alike_j3 N t0a t0b t0c t1b t1c) fun y3 => (
      .ret y3)))
noncomputable def bautaref17_alike (N : Nat) (t0a : Int) (t0b : Int) (t0c : Int) (t0d : Int) (t1a : Int) (t1b : Int) (t1c : Int) (t1d : Int) : Option Bool := (bautaref17_alike_T N t0a t0b t0c t0d t1a t1b t1c t1d).run some
/-! ### bauta/bautaref17.Alike -/
noncomputable def bautaref17_Alike_l5_T (N : Nat) (t3 : Int) (r0a : (List (Int × (Int × (Int × (Int × Bool)))))) (t4 : Int) : Tree (Int ⊕ (Unit ⊕ Unit)) :=
  let v1 : Bool := (ltI t4 t3)
  .br v1 (
    .br (inRange t3 r0a.length) (
    let v2 : (Int × (Int × (Int × (Int × Bool)))) := (r0a.getD t3.toNat (0, (0, (0, (0, false)))))
    .br (inRange t4 r0a.length) (
    let v3 : (Int × (Int × (Int × (Int × Bool)))) := (r0a.getD t4.toNat (0, (0, (0, (0, false)))))
    .call (bautaref17_alike N v2.1 v2.2.1 v2.2.2.1 v2.2.2.2.1 v3.1 v3.2.1 v3.2.2.1 v3.2.2.2.1) fun y4 => (
    .br y4 (
      .ret (.inr (.inl ()))) (
      let v5 : Int := (IntKind.i64.wrap (t4 + 1))
      .ret (.inl v5)))) .fail) .fail) (
    .ret (.inr (.inr ())))
noncomputable def bautaref17_Alike_l5 (N : Nat) (t3 : Int) (r0a : (List (Int × (Int × (Int × (Int × Bool)))))) (v : Int) : Option (Unit ⊕ Unit) := loopN (fun v => bautaref17_Alike_l5_T N t3 r0a v) N v
noncomputable def bautaref17_Alike_l2_T (N : Nat) (r0a : (List (Int × (Int × (Int × (Int × Bool)))))) (t3 : Int) : Tree (Int ⊕ (Unit ⊕ Unit)) :=
  let v1 : Int := (r0a.length : Int)
  let v2 : Bool := (ltI t3 v1)
  .br v2 (
    .call (bautaref17_Alike_l5 N t3 r0a 0) fun y3 => (
    .alt y3 (fun y4 => (
      .ret (.inr (.inl ())))) (fun y5 => (
      let v6 : Int := (IntKind.i64.wrap (t3 + 1))
      .ret (.inl v6))))) (
    .ret (.inr (.inr ())))
noncomputable def bautaref17_Alike_l2 (N : Nat) (r0a : (List (Int × (Int × (Int × (Int × Bool)))))) (v : Int) : Option (Unit ⊕ Unit) := loopN (fun v => bautaref17_Alike_l2_T N r0a v) N v
noncomputable def bautaref17_Alike_T (N : Nat) (t0a : (List (Int × (Int × (Int × (Int × Bool)))))) : Tree Bool :=
  .call (bautaref17_Alike_l2 N t0a 0) fun y1 => (
  .alt y1 (fun y2 => (
    .ret true)) (fun y3 => (
    .ret false)))
noncomputable def bautaref17_Alike (N : Nat) (t0a : (List (Int × (Int × (Int × (Int × Bool)))))) : Option Bool := (bautaref17_Alike_T N t0a).run some
/-! ### bauta/bautaref17.constant -/
noncomputable def bautaref17_constant_T (N : Nat) (t0a : (List (Int × (Int × (Int × (Int × Bool)))))) (t1 : Int) (t2 : Bool) : Tree Bool :=
  .br (inRange t1 t0a.length) (
  let v1 : (Int × (Int × (Int × (Int × Bool)))) := (t0a.getD t1.toNat (0, (0, (0, (0, false)))))
  let v2 : Bool := (v1.1 == 0)
  .br v2 (
    let v3 : Bool := (!t2)
    .br v3 (
      .ret true) (
      let v4 : Bool := (v1.2.2.2.1 == 0)
      .br v4 (
        .ret true) (
        let v5 : Bool := (v1.2.2.2.1 == 4294967295)
        .ret v5))) (
    .ret false)) .fail
noncomputable def bautaref17_constant (N : Nat) (t0a : (List (Int × (Int × (Int × (Int × Bool)))))) (t1 : Int) (t2 : Bool) : Option Bool := (bautaref17_constant_T N t0a t1 t2).run some
/-! ### bauta/bautaref17.Least -/
noncomputable def bautaref17_Least_j9_T (N : Nat) (r0a : (List (Int × (Int × (Int × (Int × Bool)))))) (r1a : Int) (r1b : Int) (r1c : Int) : Tree (Unit ⊕ Unit) :=
  let v1 : Bool := (r1a == 3)
  .br v1 (
    let v2 : Bool := (r1b == r1c)
    .br v2 (
      .ret (.inl ())) (
      .call (bautaref17_constant N r0a r1b true) fun y3 => (
      .br y3 (
        .ret (.inl ())) (
        .call (bautaref17_constant N r0a r1c true) fun y4 => (
        .br y4 (
          .ret (.inl ())) (
          .call (bautaref17_constant N r0a r1b false) fun y5 => (
          .br y5 (
            .call (bautaref17_constant N r0a r1c false) fun y6 => (
            .br y6 (
              .ret (.inl ())) (
              .ret (.inr ())))) (
            .ret (.inr ()))))))))) (
    let v7 : Bool := (r1a == 4)
    .br v7 (
      let v8 : Bool := (r1b == r1c)
      .br v8 (
        .ret (.inl ())) (
        .call (bautaref17_constant N r0a r1b true) fun y9 => (
        .br y9 (
          .ret (.inl ())) (
          .call (bautaref17_constant N r0a r1c true) fun y10 => (
          .br y10 (
            .ret (.inl ())) (
            .call (bautaref17_constant N r0a r1b false) fun y11 => (
            .br y11 (
              .call (bautaref17_constant N r0a r1c false) fun y12 => (
              .br y12 (
                .ret (.inl ())) (
                .ret (.inr ())))) (
              .ret (.inr ()))))))))) (
      .ret (.inr ())))
noncomputable def bautaref17_Least_j9 (N : Nat) (r0a : (List (Int × (Int × (Int × (Int × Bool)))))) (r1a : Int) (r1b : Int) (r1c : Int) : Option (Unit ⊕ Unit) := (bautaref17_Least_j9_T N r0a r1a r1b r1c).run some
noncomputable def bautaref17_Least_l4_T (N : Nat) (r0a : (List (Int × (Int × (Int × (Int × Bool)))))) (t3 : Int) : Tree (Int ⊕ (Unit ⊕ Unit)) :=
  let v1 : Int := (r0a.length : Int)
  let v2 : Bool := (ltI t3 v1)
  .br v2 (
    .br (inRange t3 r0a.length) (
    let v3 : (Int × (Int × (Int × (Int × Bool)))) := (r0a.getD t3.toNat (0, (0, (0, (0, false)))))
    let v4 : Bool := (leI 5 v3.1)
    .br v4 (
      .call (bautaref17_constant N r0a v3.2.1 false) fun y5 => (
      .br y5 (
        .ret (.inr (.inl ()))) (
        let v6 : Bool := (v3.1 == 5)
        .br v6 (
          .br (inRange v3.2.1 r0a.length) (
          let v7 : (Int × (Int × (Int × (Int × Bool)))) := (r0a.getD v3.2.1.toNat (0, (0, (0, (0, false)))))
          let v8 : Bool := (v7.1 == 5)
          .br v8 (
            .ret (.inr (.inl ()))) (
            let v9 : Bool := (ltI 5 v3.1)
            .br v9 (
              let v10 : Bool := (v3.2.2.2.1 == 0)
              .br v10 (
                .ret (.inr (.inl ()))) (
                .call (bautaref17_Least_j9 N r0a v3.1 v3.2.1 v3.2.2.1) fun y11 => (
                .alt y11 (fun y12 => (
                  .ret (.inr (.inl ())))) (fun y13 => (
                  let v14 : Int := (IntKind.i64.wrap (t3 + 1))
                  .ret (.inl v14)))))) (
              .call (bautaref17_Least_j9 N r0a v3.1 v3.2.1 v3.2.2.1) fun y15 => (
              .alt y15 (fun y16 => (
                .ret (.inr (.inl ())))) (fun y17 => (
                let v18 : Int := (IntKind.i64.wrap (t3 + 1))
                .ret (.inl v18))))))) .fail) (
          let v19 : Bool := (ltI 5 v3.1)
          .br v19 (
            let v20 : Bool := (v3.2.2.2.1 == 0)
            .br v20 (
              .ret (.inr (.inl ()))) (
              .call (bautaref17_Least_j9 N r0a v3.1 v3.2.1 v3.2.2.1) fun y21 => (
              .alt y21 (fun y22 => (
                .ret (.inr (.inl ())))) (fun y23 => (
                let v24 : Int := (IntKind.i64.wrap (t3 + 1))
                .ret (.inl v24)))))) (
            .call (bautaref17_Least_j9 N r0a v3.1 v3.2.1 v3.2.2.1) fun y25 => (
            .alt y25 (fun y26 => (
              .ret (.inr (.inl ())))) (fun y27 => (
              let v28 : Int := (IntKind.i64.wrap (t3 + 1))
              .ret (.inl v28))))))))) (
      .call (bautaref17_Least_j9 N r0a v3.1 v3.2.1 v3.2.2.1) fun y29 => (
      .alt y29 (fun y30 => (
        .ret (.inr (.inl ())))) (fun y31 => (
        let v32 : Int := (IntKind.i64.wrap (t3 + 1))
        .ret (.inl v32)))))) .fail) (
    .ret (.inr (.inr ())))
noncomputable def bautaref17_Least_l4 (N : Nat) (r0a : (List (Int × (Int × (Int × (Int × Bool)))))) (v : Int) : Option (Unit ⊕ Unit) := loopN (fun v => bautaref17_Least_l4_T N r0a v) N v
noncomputable def bautaref17_Least_j3_T (N : Nat) (r0a : (List (Int × (Int × (Int × (Int × Bool)))))) : Tree Bool :=
  .call (bautaref17_Least_l4 N r0a 0) fun y1 => (
  .alt y1 (fun y2 => (
    .ret false)) (fun y3 => (
    .ret true)))
noncomputable def bautaref17_Least_j3 (N : Nat) (r0a : (List (Int × (Int × (Int × (Int × Bool)))))) : Option Bool := (bautaref17_Least_j3_T N r0a).run some
noncomputable def bautaref17_Least_T (N : Nat) (t0a : (List (Int × (Int × (Int × (Int × Bool)))))) (t0b : Int) (t0c : Int) (t0d : (List (ByteArray × Int))) : Tree Bool :=
  .call (bautaref16_Plain N t0a t0b t0c t0d) fun y1 => (
  let v2 : Bool := (!y1)
  .br v2 (
    .ret false) (
    .call (bautaref17_Dead N t0a t0b t0c t0d) fun y3 => (
    let v4 : Int := (y3.length : Int)
    let v5 : Bool := (ltI 0 v4)
    .br v5 (
      .ret false) (
      .call (bautaref17_Alike N t0a) fun y6 => (
      .br y6 (
        .ret false) (
        .call (bautaref17_Least_j3 N t0a) fun y7 => (
        .ret y7)))))))
noncomputable def bautaref17_Least (N : Nat) (t0a : (List (Int × (Int × (Int × (Int × Bool)))))) (t0b : Int) (t0c : Int) (t0d : (List (ByteArray × Int))) : Option Bool := (bautaref17_Least_T N t0a t0b t0c t0d).run some
/-! ### bauta/bautalaw17.FoldLeast -/
noncomputable def bautalaw17_FoldLeast_l8_T (N : Nat) (r0 : (List (Int × (Int × (Int × (Int × Bool)))))) (r1 : (List (Int × (Int × (Int × (Int × Bool)))))) (t6 : Int) : Tree (Int ⊕ (Unit ⊕ Unit)) :=
  let v1 : Int := (r0.length : Int)
  let v2 : Bool := (ltI t6 v1)
  .br v2 (
    .br (inRange t6 r0.length) (
    let v3 : (Int × (Int × (Int × (Int × Bool)))) := (r0.getD t6.toNat (0, (0, (0, (0, false)))))
    .br (inRange t6 r1.length) (
    let v4 : (Int × (Int × (Int × (Int × Bool)))) := (r1.getD t6.toNat (0, (0, (0, (0, false)))))
    let v5 : Bool := (!((v3.1 == v4.1) && ((v3.2.1 == v4.2.1) && ((v3.2.2.1 == v4.2.2.1) && ((v3.2.2.2.1 == v4.2.2.2.1) && (v3.2.2.2.2 == v4.2.2.2.2))))))
    .br v5 (
      .ret (.inr (.inl ()))) (
      let v6 : Int := (IntKind.i64.wrap (t6 + 1))
      .ret (.inl v6))) .fail) .fail) (
    .ret (.inr (.inr ())))
noncomputable def bautalaw17_FoldLeast_l8 (N : Nat) (r0 : (List (Int × (Int × (Int × (Int × Bool)))))) (r1 : (List (Int × (Int × (Int × (Int × Bool)))))) (v : Int) : Option (Unit ⊕ Unit) := loopN (fun v => bautalaw17_FoldLeast_l8_T N r0 r1 v) N v
noncomputable def bautalaw17_FoldLeast_j7_T (N : Nat) (r0 : (List (Int × (Int × (Int × (Int × Bool)))))) (r1 : (List (Int × (Int × (Int × (Int × Bool)))))) : Tree Bool :=
  .call (bautalaw17_FoldLeast_l8 N r0 r1 0) fun y1 => (
  .alt y1 (fun y2 => (
    .ret false)) (fun y3 => (
    .call (bautalaw17_lives N) fun y4 => (
    .ret y4))))
noncomputable def bautalaw17_FoldLeast_j7 (N : Nat) (r0 : (List (Int × (Int × (Int × (Int × Bool)))))) (r1 : (List (Int × (Int × (Int × (Int × Bool)))))) : Option Bool := (bautalaw17_FoldLeast_j7_T N r0 r1).run some
noncomputable def bautalaw17_FoldLeast_j3_T (N : Nat) (r0a : (List (Int × (Int × (Int × (Int × Bool)))))) (r0b : Int) (r0c : Int) (r0d : (List (ByteArray × Int))) : Tree Bool :=
  .call (bautaref15_Own N r0a r0d) fun y1 => (
  .call (fold_Circuit N r0a r0b r0c r0d) fun y2 => (
  .call (bautaref17_Inputs N r0a) fun y3 => (
  .call (bautaref17_Inputs N y2.1) fun y4 => (
  .call (bautaref17_Least N y2.1 r0b r0c y2.2) fun y5 => (
  let v6 : Bool := (!y5)
  .br v6 (
    .ret false) (
    let v7 : Int := (y2.1.length : Int)
    let v8 : Int := (r0a.length : Int)
    let v9 : Int := (r0d.length : Int)
    let v10 : Int := (IntKind.i64.wrap (v8 + v9))
    let v11 : Bool := (ltI v10 v7)
    .br v11 (
      .ret false) (
      let v12 : Int := (y3.length : Int)
      let v13 : Int := (y4.length : Int)
      let v14 : Bool := (v12 != v13)
      .br v14 (
        .ret false) (
        let v15 : Bool := (r0b != r0b)
        .br v15 (
          .ret false) (
          let v16 : Bool := (r0c != r0c)
          .br v16 (
            .ret false) (
            .call (bautalaw17_FoldLeast_j7 N y3 y4) fun y17 => (
            .ret y17)))))))))))
noncomputable def bautalaw17_FoldLeast_j3 (N : Nat) (r0a : (List (Int × (Int × (Int × (Int × Bool)))))) (r0b : Int) (r0c : Int) (r0d : (List (ByteArray × Int))) : Option Bool := (bautalaw17_FoldLeast_j3_T N r0a r0b r0c r0d).run some
noncomputable def bautalaw17_FoldLeast_T (N : Nat) (t0a : (List (Int × (Int × (Int × (Int × Bool)))))) (t0b : Int) (t0c : Int) (t0d : (List (ByteArray × Int))) : Tree Bool :=
  .call (bautalaw17_few N t0a t0d) fun y1 => (
  let v2 : Bool := (!y1)
  .br v2 (
    .call (bautalaw17_lives N) fun y3 => (
    .ret y3)) (
    .call (bautalaw17_plain N t0a t0b t0c t0d) fun y4 => (
    let v5 : Bool := (!y4)
    .br v5 (
      .call (bautalaw17_lives N) fun y6 => (
      .ret y6)) (
      .call (bautalaw17_FoldLeast_j3 N t0a t0b t0c t0d) fun y7 => (
      .ret y7)))))
noncomputable def bautalaw17_FoldLeast (N : Nat) (t0a : (List (Int × (Int × (Int × (Int × Bool)))))) (t0b : Int) (t0c : Int) (t0d : (List (ByteArray × Int))) : Option Bool := (bautalaw17_FoldLeast_T N t0a t0b t0c t0d).run some
/-! ### bauta/bautalaw17.FoldAgain -/
noncomputable def bautalaw17_FoldAgain_T (N : Nat) (t0a : (List (Int × (Int × (Int × (Int × Bool)))))) (t0b : Int) (t0c : Int) (t0d : (List (ByteArray × Int))) : Tree Bool :=
  .call (bautalaw17_few N t0a t0d) fun y1 => (
  let v2 : Bool := (!y1)
  .br v2 (
    .call (bautalaw17_lives N) fun y3 => (
    .ret y3)) (
    .call (bautaref15_Own N t0a t0d) fun y4 => (
    .call (fold_Circuit N t0a t0b t0c t0d) fun y5 => (
    .call (bautaref15_Own N y5.1 y5.2) fun y6 => (
    .call (fold_Circuit N y5.1 t0b t0c y5.2) fun y7 => (
    .call (bautaref15_Same N y7.1 t0b t0c y7.2 y5.1 t0b t0c y5.2) fun y8 => (
    .br y8 (
      .call (fold_Circuit N t0a t0b t0c t0d) fun y9 => (
      .call (bautaref15_Same N y9.1 t0b t0c y9.2 y5.1 t0b t0c y5.2) fun y10 => (
      .br y10 (
        .call (bautalaw17_lives N) fun y11 => (
        .ret y11)) (
        .ret false)))) (
      .ret false))))))))
noncomputable def bautalaw17_FoldAgain (N : Nat) (t0a : (List (Int × (Int × (Int × (Int × Bool)))))) (t0b : Int) (t0c : Int) (t0d : (List (ByteArray × Int))) : Option Bool := (bautalaw17_FoldAgain_T N t0a t0b t0c t0d).run some
/-! ### bauta/bautalaw17.FoldConsts -/
noncomputable def bautalaw17_FoldConsts_l10_T (N : Nat) (t6 : Int) (r0 : (List Int)) (t7 : Bool) (t8 : Int) : Tree ((Bool × Int) ⊕ Bool) :=
  let v1 : Bool := (ltI t8 t6)
  .br v1 (
    .br t7 (
      let v2 : Int := (IntKind.i64.wrap (t8 + 1))
      .ret (.inl (true, v2))) (
      .br (inRange t8 r0.length) (
      let v3 : Int := (r0.getD t8.toNat 0)
      .br (inRange t6 r0.length) (
      let v4 : Int := (r0.getD t6.toNat 0)
      let v5 : Bool := (v3 == v4)
      let v6 : Int := (IntKind.i64.wrap (t8 + 1))
      .ret (.inl (v5, v6))) .fail) .fail)) (
    .ret (.inr t7))
noncomputable def bautalaw17_FoldConsts_l10 (N : Nat) (t6 : Int) (r0 : (List Int)) (v : (Bool × Int)) : Option Bool := loopN (fun v => bautalaw17_FoldConsts_l10_T N t6 r0 v.1 v.2) N v
noncomputable def bautalaw17_FoldConsts_l6_T (N : Nat) (r0 : (List Int)) (t5 : Int) (t6 : Int) : Tree ((Int × Int) ⊕ Int) :=
  let v1 : Int := (r0.length : Int)
  let v2 : Bool := (ltI t6 v1)
  .br v2 (
    .call (bautalaw17_FoldConsts_l10 N t6 r0 (false, 0)) fun y3 => (
    let v4 : Bool := (!y3)
    .br v4 (
      let v5 : Int := (IntKind.i64.wrap (t5 + 1))
      let v6 : Int := (IntKind.i64.wrap (t6 + 1))
      .ret (.inl (v5, v6))) (
      let v7 : Int := (IntKind.i64.wrap (t6 + 1))
      .ret (.inl (t5, v7))))) (
    .ret (.inr t5))
noncomputable def bautalaw17_FoldConsts_l6 (N : Nat) (r0 : (List Int)) (v : (Int × Int)) : Option Int := loopN (fun v => bautalaw17_FoldConsts_l6_T N r0 v.1 v.2) N v
noncomputable def bautalaw17_FoldConsts_l18_T (N : Nat) (r0 : (List Int)) (r1a : (List (Int × (Int × (Int × (Int × Bool)))))) (r1d : (List (ByteArray × Int))) (t9 : Int) : Tree (Int ⊕ (Unit ⊕ Unit)) :=
  let v1 : Int := (r0.length : Int)
  let v2 : Bool := (ltI t9 v1)
  .br v2 (
    .br (inRange t9 r1d.length) (
    let v3 : (ByteArray × Int) := (r1d.getD t9.toNat (ByteArray.empty, 0))
    .br (inRange v3.2 r1a.length) (
    let v4 : (Int × (Int × (Int × (Int × Bool)))) := (r1a.getD v3.2.toNat (0, (0, (0, (0, false)))))
    let v5 : Bool := (v4.1 != 0)
    .br v5 (
      .ret (.inr (.inl ()))) (
      .br (inRange t9 r0.length) (
      let v6 : Int := (r0.getD t9.toNat 0)
      let v7 : Bool := (v4.2.2.2.1 != v6)
      .br v7 (
        .ret (.inr (.inl ()))) (
        let v8 : Int := (IntKind.i64.wrap (t9 + 1))
        .ret (.inl v8))) .fail)) .fail) .fail) (
    .ret (.inr (.inr ())))
noncomputable def bautalaw17_FoldConsts_l18 (N : Nat) (r0 : (List Int)) (r1a : (List (Int × (Int × (Int × (Int × Bool)))))) (r1d : (List (ByteArray × Int))) (v : Int) : Option (Unit ⊕ Unit) := loopN (fun v => bautalaw17_FoldConsts_l18_T N r0 r1a r1d v) N v
noncomputable def bautalaw17_FoldConsts_j17_T (N : Nat) (r0 : (List Int)) (r1a : (List (Int × (Int × (Int × (Int × Bool)))))) (r1d : (List (ByteArray × Int))) : Tree Bool :=
  .call (bautalaw17_FoldConsts_l18 N r0 r1a r1d 0) fun y1 => (
  .alt y1 (fun y2 => (
    .ret false)) (fun y3 => (
    .call (bautalaw17_lives N) fun y4 => (
    .ret y4))))
noncomputable def bautalaw17_FoldConsts_j17 (N : Nat) (r0 : (List Int)) (r1a : (List (Int × (Int × (Int × (Int × Bool)))))) (r1d : (List (ByteArray × Int))) : Option Bool := (bautalaw17_FoldConsts_j17_T N r0 r1a r1d).run some
noncomputable def bautalaw17_FoldConsts_j3_T (N : Nat) (r0a : (List (Int × (Int × (Int × (Int × Bool)))))) (r0b : Int) (r0c : Int) (r0d : (List (ByteArray × Int))) : Tree Bool :=
  .call (bautaref15_Outs N r0a r0b r0c r0d [] []) fun y1 => (
  .call (bautaref15_Own N r0a r0d) fun y2 => (
  .call (fold_Circuit N r0a r0b r0c r0d) fun y3 => (
  .call (bautalaw17_FoldConsts_l6 N y1 (0, 0)) fun y4 => (
  let v5 : Int := (y3.1.length : Int)
  let v6 : Bool := (v5 != y4)
  .br v6 (
    .ret false) (
    let v7 : Int := (y3.2.length : Int)
    let v8 : Int := (y1.length : Int)
    let v9 : Bool := (v7 != v8)
    .br v9 (
      .ret false) (
      .call (bautalaw17_FoldConsts_j17 N y1 y3.1 y3.2) fun y10 => (
      .ret y10)))))))
noncomputable def bautalaw17_FoldConsts_j3 (N : Nat) (r0a : (List (Int × (Int × (Int × (Int × Bool)))))) (r0b : Int) (r0c : Int) (r0d : (List (ByteArray × Int))) : Option Bool := (bautalaw17_FoldConsts_j3_T N r0a r0b r0c r0d).run some
noncomputable def bautalaw17_FoldConsts_T (N : Nat) (t0a : (List (Int × (Int × (Int × (Int × Bool)))))) (t0b : Int) (t0c : Int) (t0d : (List (ByteArray × Int))) : Tree Bool :=
  .call (bautalaw17_few N t0a t0d) fun y1 => (
  let v2 : Bool := (!y1)
  .br v2 (
    .call (bautalaw17_lives N) fun y3 => (
    .ret y3)) (
    .call (bautalaw17_plain N t0a t0b t0c t0d) fun y4 => (
    let v5 : Bool := (!y4)
    .br v5 (
      .call (bautalaw17_lives N) fun y6 => (
      .ret y6)) (
      .call (bautaref17_Inputs N t0a) fun y7 => (
      let v8 : Int := (y7.length : Int)
      let v9 : Bool := (ltI 0 v8)
      .br v9 (
        .call (bautalaw17_lives N) fun y10 => (
        .ret y10)) (
        .call (bautalaw17_FoldConsts_j3 N t0a t0b t0c t0d) fun y11 => (
        .ret y11)))))))
noncomputable def bautalaw17_FoldConsts (N : Nat) (t0a : (List (Int × (Int × (Int × (Int × Bool)))))) (t0b : Int) (t0c : Int) (t0d : (List (ByteArray × Int))) : Option Bool := (bautalaw17_FoldConsts_T N t0a t0b t0c t0d).run some
end Go.Proofs.YtnlkfkkgcaiklaaV
