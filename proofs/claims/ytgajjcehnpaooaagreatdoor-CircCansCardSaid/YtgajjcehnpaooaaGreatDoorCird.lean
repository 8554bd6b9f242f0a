/- Cir: what the functions come to (printed by wip/ext.py). -/
import Derived.Test.YtgajjcehnpaooaaGreatDoorVL
namespace Go.Proofs.YtgajjcehnpaooaaGreatDoorV
open Go.RowKit
set_option linter.unusedVariables false
set_option maxRecDepth 100000
/-! ### bauta/bautaref15.Own -/
noncomputable def bautaref15_Own_T (N : Nat) (t0a : (List (Int × (Int × (Int × (Int × Bool)))))) (t0d : (List (ByteArray × Int))) : Tree Unit :=
 .br (ltI ((0 + (t0a.length : Int)) * 32) 140737488355328) (
 .br (ltI ((0 + (t0d.length : Int)) * 24) 140737488355328) (
 .ret ()) .fail) .fail
noncomputable def bautaref15_Own (N : Nat) (t0a : (List (Int × (Int × (Int × (Int × Bool)))))) (t0d : (List (ByteArray × Int))) : Option Unit := (bautaref15_Own_T N t0a t0d).run some
/-! ### bauta/circ.most -/
noncomputable def circ_most_T (N : Nat) (t0b : Int) (t0c : Int) (t1 : Int) : Tree Int :=
 let v1 : Bool := (t1 == 0)
 .br v1 (
 .ret 4294967295) (
 let v2 : Bool := (t1 == 1)
 .br v2 (
 let v3 : Int := (IntKind.i64.wrap (t0b - 1))
 .ret v3) (
 let v4 : Bool := (t1 == 2)
 .br v4 (
 let v5 : Int := (IntKind.i64.wrap (t0c - 1))
 .ret v5) (
 let v6 : Bool := (t1 == 6)
 .br v6 (
 .br v6 (
 .ret 31) (
 .ret 0)) (
 let v7 : Bool := (t1 == 7)
 .br v7 (
 .br v7 (
 .ret 31) (
 .ret 0)) (
 let v8 : Bool := (t1 == 8)
 .br v8 (
 .ret 31) (
 .ret 0))))))
noncomputable def circ_most (N : Nat) (t0b : Int) (t0c : Int) (t1 : Int) : Option Int := (circ_most_T N t0b t0c t1).run some
/-! ### bauta/circ.takes -/
noncomputable def circ_takes_j7_T (N : Nat) (t3 : Int) (t4 : Bool) : Tree (Int ⊕ Unit) :=
 .br t4 (
 .ret (.inl 2)) (
 let v1 : Bool := (t3 == 5)
 .br v1 (
 .br v1 (
 .ret (.inl 1)) (
 .ret (.inr ()))) (
 let v2 : Bool := (t3 == 6)
 .br v2 (
 .br v2 (
 .ret (.inl 1)) (
 .ret (.inr ()))) (
 let v3 : Bool := (t3 == 7)
 .br v3 (
 .br v3 (
 .ret (.inl 1)) (
 .ret (.inr ()))) (
 let v4 : Bool := (t3 == 8)
 .br v4 (
 .ret (.inl 1)) (
 .ret (.inr ()))))))
noncomputable def circ_takes_j7 (N : Nat) (t3 : Int) (t4 : Bool) : Option (Int ⊕ Unit) := (circ_takes_j7_T N t3 t4).run some
noncomputable def circ_takes_T (N : Nat) (t0 : Int) : Tree Int :=
 let v1 : Bool := (t0 == 3)
 .br v1 (
 .call (circ_takes_j7 N t0 v1) fun y2 => (
 .alt y2 (fun y3 => (
 .ret y3)) (fun y4 => (
 .ret 0)))) (
 let v5 : Bool := (t0 == 4)
 .br v5 (
 .call (circ_takes_j7 N t0 v5) fun y6 => (
 .alt y6 (fun y7 => (
 .ret y7)) (fun y8 => (
 .ret 0)))) (
 let v9 : Bool := (t0 == 9)
 .br v9 (
 .call (circ_takes_j7 N t0 v9) fun y10 => (
 .alt y10 (fun y11 => (
 .ret y11)) (fun y12 => (
 .ret 0)))) (
 let v13 : Bool := (t0 == 10)
 .br v13 (
 .call (circ_takes_j7 N t0 v13) fun y14 => (
 .alt y14 (fun y15 => (
 .ret y15)) (fun y16 => (
 .ret 0)))) (
 let v17 : Bool := (t0 == 11)
 .call (circ_takes_j7 N t0 v17) fun y18 => (
 .alt y18 (fun y19 => (
 .ret y19)) (fun y20 => (
 .ret 0)))))))
noncomputable def circ_takes (N : Nat) (t0 : Int) : Option Int := (circ_takes_T N t0).run some
/-! ### bauta/circ.gate -/
noncomputable def circ_gate_j13_T (N : Nat) (t6 : Bool) (t8 : Int) (t61 : Bool) (r0a : (List (Int × (Int × (Int × (Int × Bool)))))) : Tree (Unit ⊕ Bool) :=
 .br t61 (
 .ret (.inl ())) (
 .br t6 (
 .ret (.inr true)) (
 .br (inRange t8 r0a.length) (
 let v1 : (Int × (Int × (Int × (Int × Bool)))) := (r0a.getD t8.toNat (0, (0, (0, (0, false)))))
 .ret (.inr v1.2.2.2.2)) .fail))
noncomputable def circ_gate_j13 (N : Nat) (t6 : Bool) (t8 : Int) (t61 : Bool) (r0a : (List (Int × (Int × (Int × (Int × Bool)))))) : Option (Unit ⊕ Bool) := (circ_gate_j13_T N t6 t8 t61 r0a).run some
noncomputable def circ_gate_l6_T (N : Nat) (t1 : Int) (t39a : Int) (t39b : Int) (r0a : (List (Int × (Int × (Int × (Int × Bool)))))) (r1a : Int) (t6 : Bool) (t40 : Int) : Tree ((Bool × Int) ⊕ (Unit ⊕ Bool)) :=
 let v1 : Bool := (ltI t40 2)
 .br v1 (
 .br (inRange t40 2) (
 let v2 : Int := (bif (decide (t40 = 1)) then t39b else t39a)
 .call (circ_takes N r1a) fun y3 => (
 let v4 : Bool := (leI y3 t40)
 .br v4 (
 let v5 : Bool := (v2 != 0)
 .br v5 (
 .ret (.inr (.inl ()))) (
 let v6 : Int := (IntKind.i64.wrap (t40 + 1))
 .ret (.inl (t6, v6)))) (
 let v7 : Bool := (ltI v2 0)
 .br v7 (
 .call (circ_gate_j13 N t6 v2 true r0a) fun y8 => (
 .alt y8 (fun y9 => (
 .ret (.inr (.inl ())))) (fun y10 => (
 let v11 : Int := (IntKind.i64.wrap (t40 + 1))
 .ret (.inl (y10, v11)))))) (
 let v12 : Bool := (leI t1 v2)
 .call (circ_gate_j13 N t6 v2 v12 r0a) fun y13 => (
 .alt y13 (fun y14 => (
 .ret (.inr (.inl ())))) (fun y15 => (
 let v16 : Int := (IntKind.i64.wrap (t40 + 1))
 .ret (.inl (y15, v16))))))))) .fail) (
 .ret (.inr (.inr t6)))
noncomputable def circ_gate_l6 (N : Nat) (t1 : Int) (t39a : Int) (t39b : Int) (r0a : (List (Int × (Int × (Int × (Int × Bool)))))) (r1a : Int) (v : (Bool × Int)) : Option (Unit ⊕ Bool) := loopN (fun v => circ_gate_l6_T N t1 t39a t39b r0a r1a v.1 v.2) N v
noncomputable def circ_gate_j4_T (N : Nat) (t1 : Int) (r0a : (List (Int × (Int × (Int × (Int × Bool)))))) (r1a : Int) (r1b : Int) (r1c : Int) (r1e : Bool) : Tree Bool :=
 let v1 : Bool := (r1a == 1)
 .call (circ_gate_l6 N t1 r1b r1c r0a r1a (v1, 0)) fun y2 => (
 .alt y2 (fun y3 => (
 .ret false)) (fun y4 => (
 let v5 : Bool := (r1e == y4)
 .ret v5)))
noncomputable def circ_gate_j4 (N : Nat) (t1 : Int) (r0a : (List (Int × (Int × (Int × (Int × Bool)))))) (r1a : Int) (r1b : Int) (r1c : Int) (r1e : Bool) : Option Bool := (circ_gate_j4_T N t1 r0a r1a r1b r1c r1e).run some
noncomputable def circ_gate_T (N : Nat) (t0a : (List (Int × (Int × (Int × (Int × Bool)))))) (t0b : Int) (t0c : Int) (t1 : Int) : Tree Bool :=
 .br (inRange t1 t0a.length) (
 let v1 : (Int × (Int × (Int × (Int × Bool)))) := (t0a.getD t1.toNat (0, (0, (0, (0, false)))))
 let v2 : Bool := (ltI v1.1 0)
 .br v2 (
 .ret false) (
 let v3 : Bool := (leI 12 v1.1)
 .br v3 (
 .ret false) (
 let v4 : Int := (IntKind.i64.wrap v1.2.2.2.1)
 .call (circ_most N t0b t0c v1.1) fun y5 => (
 let v6 : Bool := (ltI y5 v4)
 .br v6 (
 .ret false) (
 .call (circ_gate_j4 N t1 t0a v1.1 v1.2.1 v1.2.2.1 v1.2.2.2.2) fun y7 => (
 .ret y7)))))) .fail
noncomputable def circ_gate (N : Nat) (t0a : (List (Int × (Int × (Int × (Int × Bool)))))) (t0b : Int) (t0c : Int) (t1 : Int) : Option Bool := (circ_gate_T N t0a t0b t0c t1).run some
/-! ### bauta/circ.can -/
noncomputable def circ_can_l4_T (N : Nat) (t32 : Int) (r0a : (List (Int × (Int × (Int × (Int × Bool)))))) (r0b : Int) (r0c : Int) (t33 : Int) : Tree (Int ⊕ (Unit ⊕ Unit)) :=
 let v1 : Bool := (ltI t33 t32)
 .br v1 (
 .call (circ_gate N r0a r0b r0c t33) fun y2 => (
 let v3 : Bool := (!y2)
 .br v3 (
 .ret (.inr (.inl ()))) (
 let v4 : Int := (IntKind.i64.wrap (t33 + 1))
 .ret (.inl v4)))) (
 .ret (.inr (.inr ())))
noncomputable def circ_can_l4 (N : Nat) (t32 : Int) (r0a : (List (Int × (Int × (Int × (Int × Bool)))))) (r0b : Int) (r0c : Int) (v : Int) : Option (Unit ⊕ Unit) := loopN (fun v => circ_can_l4_T N t32 r0a r0b r0c v) N v
noncomputable def circ_can_l10_T (N : Nat) (t42 : (List (ByteArray × Int))) (t43 : Int) (r0a : (List (Int × (Int × (Int × (Int × Bool)))))) (t44 : Int) : Tree (Int ⊕ (Unit ⊕ Unit)) :=
 let v1 : Bool := (ltI t44 t43)
 .br v1 (
 .br (inRange t44 t42.length) (
 let v2 : (ByteArray × Int) := (t42.getD t44.toNat (ByteArray.empty, 0))
 let v3 : Bool := (ltI v2.2 0)
 .br v3 (
 .ret (.inr (.inl ()))) (
 let v4 : Int := (r0a.length : Int)
 let v5 : Bool := (leI v4 v2.2)
 .br v5 (
 .ret (.inr (.inl ()))) (
 let v6 : Int := (IntKind.i64.wrap (t44 + 1))
 .ret (.inl v6)))) .fail) (
 .ret (.inr (.inr ())))
noncomputable def circ_can_l10 (N : Nat) (t42 : (List (ByteArray × Int))) (t43 : Int) (r0a : (List (Int × (Int × (Int × (Int × Bool)))))) (v : Int) : Option (Unit ⊕ Unit) := loopN (fun v => circ_can_l10_T N t42 t43 r0a v) N v
noncomputable def circ_can_j3_T (N : Nat) (r0a : (List (Int × (Int × (Int × (Int × Bool)))))) (r0b : Int) (r0c : Int) (r0d : (List (ByteArray × Int))) : Tree Bool :=
 let v1 : Int := (r0a.length : Int)
 .call (circ_can_l4 N v1 r0a r0b r0c 0) fun y2 => (
 .alt y2 (fun y3 => (
 .ret false)) (fun y4 => (
 let v5 : Int := (r0d.length : Int)
 .call (circ_can_l10 N r0d v5 r0a 0) fun y6 => (
 .alt y6 (fun y7 => (
 .ret false)) (fun y8 => (
 .ret true))))))
noncomputable def circ_can_j3 (N : Nat) (r0a : (List (Int × (Int × (Int × (Int × Bool)))))) (r0b : Int) (r0c : Int) (r0d : (List (ByteArray × Int))) : Option Bool := (circ_can_j3_T N r0a r0b r0c r0d).run some
noncomputable def circ_can_T (N : Nat) (t0a : (List (Int × (Int × (Int × (Int × Bool)))))) (t0b : Int) (t0c : Int) (t0d : (List (ByteArray × Int))) : Tree Bool :=
 let v1 : Bool := (ltI t0b 0)
 .br v1 (
 .ret false) (
 let v2 : Bool := (ltI 1000 t0b)
 .br v2 (
 .ret false) (
 let v3 : Bool := (ltI t0c 0)
 .br v3 (
 .ret false) (
 let v4 : Bool := (ltI 1000 t0c)
 .br v4 (
 .ret false) (
 let v5 : Int := (t0a.length : Int)
 let v6 : Bool := (ltI 8000 v5)
 .br v6 (
 .ret false) (
 .call (circ_can_j3 N t0a t0b t0c t0d) fun y7 => (
 .ret y7))))))
noncomputable def circ_can (N : Nat) (t0a : (List (Int × (Int × (Int × (Int × Bool)))))) (t0b : Int) (t0c : Int) (t0d : (List (ByteArray × Int))) : Option Bool := (circ_can_T N t0a t0b t0c t0d).run some
/-! ### bauta/circ.Can -/
noncomputable def circ_Can_T (N : Nat) (t0a : (List (Int × (Int × (Int × (Int × Bool)))))) (t0b : Int) (t0c : Int) (t0d : (List (ByteArray × Int))) : Tree Bool :=
 .call (circ_can N t0a t0b t0c t0d) fun y1 => (
 .ret y1)
noncomputable def circ_Can (N : Nat) (t0a : (List (Int × (Int × (Int × (Int × Bool)))))) (t0b : Int) (t0c : Int) (t0d : (List (ByteArray × Int))) : Option Bool := (circ_Can_T N t0a t0b t0c t0d).run some
/-! ### bauta/bautaref15.Takes -/
noncomputable def bautaref15_Takes_j3_T (N : Nat) (t0 : Int) : Tree Int :=
 let v1 : Bool := (leI 5 t0)
 .br v1 (
 let v2 : Bool := (leI t0 8)
 .br v2 (
 .ret 1) (
 .ret 0)) (
 .ret 0)
noncomputable def bautaref15_Takes_j3 (N : Nat) (t0 : Int) : Option Int := (bautaref15_Takes_j3_T N t0).run some
noncomputable def bautaref15_Takes_T (N : Nat) (t0 : Int) : Tree Int :=
 let v1 : Bool := (t0 == 3)
 .br v1 (
 .ret 2) (
 let v2 : Bool := (t0 == 4)
 .br v2 (
 .ret 2) (
 let v3 : Bool := (leI 9 t0)
 .br v3 (
 let v4 : Bool := (leI t0 11)
 .br v4 (
 .ret 2) (
 .call (bautaref15_Takes_j3 N t0) fun y5 => (
 .ret y5))) (
 .call (bautaref15_Takes_j3 N t0) fun y6 => (
 .ret y6))))
noncomputable def bautaref15_Takes (N : Nat) (t0 : Int) : Option Int := (bautaref15_Takes_T N t0).run some
/-! ### bauta/bautaref15.Can -/
noncomputable def bautaref15_Can_j12_T (N : Nat) (t5 : Int) (r0a : (List (Int × (Int × (Int × (Int × Bool)))))) (r1a : Int) (r1b : Int) (r1c : Int) (r1e : Bool) : Tree (Unit ⊕ Unit) :=
 let v1 : Bool := (r1a == 1)
 .br v1 (
 let v2 : Bool := (!(r1e == true))
 .br v2 (
 .ret (.inl ())) (
 .ret (.inr ()))) (
 let v3 : Bool := (ltI 0 t5)
 .br v3 (
 .br (inRange r1b r0a.length) (
 let v4 : (Int × (Int × (Int × (Int × Bool)))) := (r0a.getD r1b.toNat (0, (0, (0, (0, false)))))
 .br v4.2.2.2.2 (
 let v5 : Bool := (!(r1e == true))
 .br v5 (
 .ret (.inl ())) (
 .ret (.inr ()))) (
 let v6 : Bool := (ltI 1 t5)
 .br v6 (
 .br (inRange r1c r0a.length) (
 let v7 : (Int × (Int × (Int × (Int × Bool)))) := (r0a.getD r1c.toNat (0, (0, (0, (0, false)))))
 let v8 : Bool := (!(r1e == v7.2.2.2.2))
 .br v8 (
 .ret (.inl ())) (
 .ret (.inr ()))) .fail) (
 let v9 : Bool := (!(r1e == false))
 .br v9 (
 .ret (.inl ())) (
 .ret (.inr ()))))) .fail) (
 let v10 : Bool := (ltI 1 t5)
 .br v10 (
 .br (inRange r1c r0a.length) (
 let v11 : (Int × (Int × (Int × (Int × Bool)))) := (r0a.getD r1c.toNat (0, (0, (0, (0, false)))))
 let v12 : Bool := (!(r1e == v11.2.2.2.2))
 .br v12 (
 .ret (.inl ())) (
 .ret (.inr ()))) .fail) (
 let v13 : Bool := (!(r1e == false))
 .br v13 (
 .ret (.inl ())) (
 .ret (.inr ())))))
noncomputable def bautaref15_Can_j12 (N : Nat) (t5 : Int) (r0a : (List (Int × (Int × (Int × (Int × Bool)))))) (r1a : Int) (r1b : Int) (r1c : Int) (r1e : Bool) : Option (Unit ⊕ Unit) := (bautaref15_Can_j12_T N t5 r0a r1a r1b r1c r1e).run some
noncomputable def bautaref15_Can_j10_T (N : Nat) (t5 : Int) (r0a : (List (Int × (Int × (Int × (Int × Bool)))))) (r0b : Int) (r0c : Int) (r1a : Int) (r1b : Int) (r1c : Int) (r1d : Int) (r1e : Bool) : Tree (Unit ⊕ Unit) :=
 let v1 : Bool := (r1a == 1)
 .br v1 (
 let v2 : Int := (IntKind.i64.wrap r1d)
 let v3 : Bool := (leI r0b v2)
 .br v3 (
 .ret (.inl ())) (
 let v4 : Bool := (r1a == 2)
 .br v4 (
 let v5 : Int := (IntKind.i64.wrap r1d)
 let v6 : Bool := (leI r0c v5)
 .br v6 (
 .ret (.inl ())) (
 let v7 : Bool := (leI 6 r1a)
 .br v7 (
 let v8 : Bool := (leI r1a 8)
 .br v8 (
 let v9 : Bool := (ltI 31 r1d)
 .br v9 (
 .ret (.inl ())) (
 let v10 : Bool := (leI 3 r1a)
 .br v10 (
 let v11 : Bool := (leI r1a 5)
 .br v11 (
 let v12 : Bool := (r1d != 0)
 .br v12 (
 .ret (.inl ())) (
 .call (bautaref15_Can_j12 N t5 r0a r1a r1b r1c r1e) fun y13 => (
 .alt y13 (fun y14 => (
 .ret (.inl ()))) (fun y15 => (
 .ret (.inr ())))))) (
 let v16 : Bool := (leI 9 r1a)
 .br v16 (
 let v17 : Bool := (r1d != 0)
 .br v17 (
 .ret (.inl ())) (
 .call (bautaref15_Can_j12 N t5 r0a r1a r1b r1c r1e) fun y18 => (
 .alt y18 (fun y19 => (
 .ret (.inl ()))) (fun y20 => (
 .ret (.inr ())))))) (
 .call (bautaref15_Can_j12 N t5 r0a r1a r1b r1c r1e) fun y21 => (
 .alt y21 (fun y22 => (
 .ret (.inl ()))) (fun y23 => (
 .ret (.inr ()))))))) (
 let v24 : Bool := (leI 9 r1a)
 .br v24 (
 let v25 : Bool := (r1d != 0)
 .br v25 (
 .ret (.inl ())) (
 .call (bautaref15_Can_j12 N t5 r0a r1a r1b r1c r1e) fun y26 => (
 .alt y26 (fun y27 => (
 .ret (.inl ()))) (fun y28 => (
 .ret (.inr ())))))) (
 .call (bautaref15_Can_j12 N t5 r0a r1a r1b r1c r1e) fun y29 => (
 .alt y29 (fun y30 => (
 .ret (.inl ()))) (fun y31 => (
 .ret (.inr ())))))))) (
 let v32 : Bool := (leI 3 r1a)
 .br v32 (
 let v33 : Bool := (leI r1a 5)
 .br v33 (
 let v34 : Bool := (r1d != 0)
 .br v34 (
 .ret (.inl ())) (
 .call (bautaref15_Can_j12 N t5 r0a r1a r1b r1c r1e) fun y35 => (
 .alt y35 (fun y36 => (
 .ret (.inl ()))) (fun y37 => (
 .ret (.inr ())))))) (
 let v38 : Bool := (leI 9 r1a)
 .br v38 (
 let v39 : Bool := (r1d != 0)
 .br v39 (
 .ret (.inl ())) (
 .call (bautaref15_Can_j12 N t5 r0a r1a r1b r1c r1e) fun y40 => (
 .alt y40 (fun y41 => (
 .ret (.inl ()))) (fun y42 => (
 .ret (.inr ())))))) (
 .call (bautaref15_Can_j12 N t5 r0a r1a r1b r1c r1e) fun y43 => (
 .alt y43 (fun y44 => (
 .ret (.inl ()))) (fun y45 => (
 .ret (.inr ()))))))) (
 let v46 : Bool := (leI 9 r1a)
 .br v46 (
 let v47 : Bool := (r1d != 0)
 .br v47 (
 .ret (.inl ())) (
 .call (bautaref15_Can_j12 N t5 r0a r1a r1b r1c r1e) fun y48 => (
 .alt y48 (fun y49 => (
 .ret (.inl ()))) (fun y50 => (
 .ret (.inr ())))))) (
 .call (bautaref15_Can_j12 N t5 r0a r1a r1b r1c r1e) fun y51 => (
 .alt y51 (fun y52 => (
 .ret (.inl ()))) (fun y53 => (
 .ret (.inr ())))))))) (
 let v54 : Bool := (leI 3 r1a)
 .br v54 (
 let v55 : Bool := (leI r1a 5)
 .br v55 (
 let v56 : Bool := (r1d != 0)
 .br v56 (
 .ret (.inl ())) (
 .call (bautaref15_Can_j12 N t5 r0a r1a r1b r1c r1e) fun y57 => (
 .alt y57 (fun y58 => (
 .ret (.inl ()))) (fun y59 => (
 .ret (.inr ())))))) (
 let v60 : Bool := (leI 9 r1a)
 .br v60 (
 let v61 : Bool := (r1d != 0)
 .br v61 (
 .ret (.inl ())) (
 .call (bautaref15_Can_j12 N t5 r0a r1a r1b r1c r1e) fun y62 => (
 .alt y62 (fun y63 => (
 .ret (.inl ()))) (fun y64 => (
 .ret (.inr ())))))) (
 .call (bautaref15_Can_j12 N t5 r0a r1a r1b r1c r1e) fun y65 => (
 .alt y65 (fun y66 => (
 .ret (.inl ()))) (fun y67 => (
 .ret (.inr ()))))))) (
 let v68 : Bool := (leI 9 r1a)
 .br v68 (
 let v69 : Bool := (r1d != 0)
 .br v69 (
 .ret (.inl ())) (
 .call (bautaref15_Can_j12 N t5 r0a r1a r1b r1c r1e) fun y70 => (
 .alt y70 (fun y71 => (
 .ret (.inl ()))) (fun y72 => (
 .ret (.inr ())))))) (
 .call (bautaref15_Can_j12 N t5 r0a r1a r1b r1c r1e) fun y73 => (
 .alt y73 (fun y74 => (
 .ret (.inl ()))) (fun y75 => (
 .ret (.inr ()))))))))) (
 let v76 : Bool := (leI 6 r1a)
 .br v76 (
 let v77 : Bool := (leI r1a 8)
 .br v77 (
 let v78 : Bool := (ltI 31 r1d)
 .br v78 (
 .ret (.inl ())) (
 let v79 : Bool := (leI 3 r1a)
 .br v79 (
 let v80 : Bool := (leI r1a 5)
 .br v80 (
 let v81 : Bool := (r1d != 0)
 .br v81 (
 .ret (.inl ())) (
 .call (bautaref15_Can_j12 N t5 r0a r1a r1b r1c r1e) fun y82 => (
 .alt y82 (fun y83 => (
 .ret (.inl ()))) (fun y84 => (
 .ret (.inr ())))))) (
 let v85 : Bool := (leI 9 r1a)
 .br v85 (
 let v86 : Bool := (r1d != 0)
 .br v86 (
 .ret (.inl ())) (
 .call (bautaref15_Can_j12 N t5 r0a r1a r1b r1c r1e) fun y87 => (
 .alt y87 (fun y88 => (
 .ret (.inl ()))) (fun y89 => (
 .ret (.inr ())))))) (
 .call (bautaref15_Can_j12 N t5 r0a r1a r1b r1c r1e) fun y90 => (
 .alt y90 (fun y91 => (
 .ret (.inl ()))) (fun y92 => (
 .ret (.inr ()))))))) (
 let v93 : Bool := (leI 9 r1a)
 .br v93 (
 let v94 : Bool := (r1d != 0)
 .br v94 (
 .ret (.inl ())) (
 .call (bautaref15_Can_j12 N t5 r0a r1a r1b r1c r1e) fun y95 => (
 .alt y95 (fun y96 => (
 .ret (.inl ()))) (fun y97 => (
 .ret (.inr ())))))) (
 .call (bautaref15_Can_j12 N t5 r0a r1a r1b r1c r1e) fun y98 => (
 .alt y98 (fun y99 => (
 .ret (.inl ()))) (fun y100 => (
 .ret (.inr ())))))))) (
 let v101 : Bool := (leI 3 r1a)
 .br v101 (
 let v102 : Bool := (leI r1a 5)
 .br v102 (
 let v103 : Bool := (r1d != 0)
 .br v103 (
 .ret (.inl ())) (
 .call (bautaref15_Can_j12 N t5 r0a r1a r1b r1c r1e) fun y104 => (
 .alt y104 (fun y105 => (
 .ret (.inl ()))) (fun y106 => (
 .ret (.inr ())))))) (
 let v107 : Bool := (leI 9 r1a)
 .br v107 (
 let v108 : Bool := (r1d != 0)
 .br v108 (
 .ret (.inl ())) (
 .call (bautaref15_Can_j12 N t5 r0a r1a r1b r1c r1e) fun y109 => (
 .alt y109 (fun y110 => (
 .ret (.inl ()))) (fun y111 => (
 .ret (.inr ())))))) (
 .call (bautaref15_Can_j12 N t5 r0a r1a r1b r1c r1e) fun y112 => (
 .alt y112 (fun y113 => (
 .ret (.inl ()))) (fun y114 => (
 .ret (.inr ()))))))) (
 let v115 : Bool := (leI 9 r1a)
 .br v115 (
 let v116 : Bool := (r1d != 0)
 .br v116 (
 .ret (.inl ())) (
 .call (bautaref15_Can_j12 N t5 r0a r1a r1b r1c r1e) fun y117 => (
 .alt y117 (fun y118 => (
 .ret (.inl ()))) (fun y119 => (
 .ret (.inr ())))))) (
 .call (bautaref15_Can_j12 N t5 r0a r1a r1b r1c r1e) fun y120 => (
 .alt y120 (fun y121 => (
 .ret (.inl ()))) (fun y122 => (
 .ret (.inr ())))))))) (
 let v123 : Bool := (leI 3 r1a)
 .br v123 (
 let v124 : Bool := (leI r1a 5)
 .br v124 (
 let v125 : Bool := (r1d != 0)
 .br v125 (
 .ret (.inl ())) (
 .call (bautaref15_Can_j12 N t5 r0a r1a r1b r1c r1e) fun y126 => (
 .alt y126 (fun y127 => (
 .ret (.inl ()))) (fun y128 => (
 .ret (.inr ())))))) (
 let v129 : Bool := (leI 9 r1a)
 .br v129 (
 let v130 : Bool := (r1d != 0)
 .br v130 (
 .ret (.inl ())) (
 .call (bautaref15_Can_j12 N t5 r0a r1a r1b r1c r1e) fun y131 => (
 .alt y131 (fun y132 => (
 .ret (.inl ()))) (fun y133 => (
 .ret (.inr ())))))) (
 .call (bautaref15_Can_j12 N t5 r0a r1a r1b r1c r1e) fun y134 => (
 .alt y134 (fun y135 => (
 .ret (.inl ()))) (fun y136 => (
 .ret (.inr ()))))))) (
 let v137 : Bool := (leI 9 r1a)
 .br v137 (
 let v138 : Bool := (r1d != 0)
 .br v138 (
 .ret (.inl ())) (
 .call (bautaref15_Can_j12 N t5 r0a r1a r1b r1c r1e) fun y139 => (
 .alt y139 (fun y140 => (
 .ret (.inl ()))) (fun y141 => (
 .ret (.inr ())))))) (
 .call (bautaref15_Can_j12 N t5 r0a r1a r1b r1c r1e) fun y142 => (
 .alt y142 (fun y143 => (
 .ret (.inl ()))) (fun y144 => (
 .ret (.inr ())))))))))) (
 let v145 : Bool := (r1a == 2)
 .br v145 (
 let v146 : Int := (IntKind.i64.wrap r1d)
 let v147 : Bool := (leI r0c v146)
 .br v147 (
 .ret (.inl ())) (
 let v148 : Bool := (leI 6 r1a)
 .br v148 (
 let v149 : Bool := (leI r1a 8)
 .br v149 (
 let v150 : Bool := (ltI 31 r1d)
 .br v150 (
 .ret (.inl ())) (
 let v151 : Bool := (leI 3 r1a)
 .br v151 (
 let v152 : Bool := (leI r1a 5)
 .br v152 (
 let v153 : Bool := (r1d != 0)
 .br v153 (
 .ret (.inl ())) (
 .call (bautaref15_Can_j12 N t5 r0a r1a r1b r1c r1e) fun y154 => (
 .alt y154 (fun y155 => (
 .ret (.inl ()))) (fun y156 => (
 .ret (.inr ())))))) (
 let v157 : Bool := (leI 9 r1a)
 .br v157 (
 let v158 : Bool := (r1d != 0)
 .br v158 (
 .ret (.inl ())) (
 .call (bautaref15_Can_j12 N t5 r0a r1a r1b r1c r1e) fun y159 => (
 .alt y159 (fun y160 => (
 .ret (.inl ()))) (fun y161 => (
 .ret (.inr ())))))) (
 .call (bautaref15_Can_j12 N t5 r0a r1a r1b r1c r1e) fun y162 => (
 .alt y162 (fun y163 => (
 .ret (.inl ()))) (fun y164 => (
 .ret (.inr ()))))))) (
 let v165 : Bool := (leI 9 r1a)
 .br v165 (
 let v166 : Bool := (r1d != 0)
 .br v166 (
 .ret (.inl ())) (
 .call (bautaref15_Can_j12 N t5 r0a r1a r1b r1c r1e) fun y167 => (
 .alt y167 (fun y168 => (
 .ret (.inl ()))) (fun y169 => (
 .ret (.inr ())))))) (
 .call (bautaref15_Can_j12 N t5 r0a r1a r1b r1c r1e) fun y170 => (
 .alt y170 (fun y171 => (
 .ret (.inl ()))) (fun y172 => (
 .ret (.inr ())))))))) (
 let v173 : Bool := (leI 3 r1a)
 .br v173 (
 let v174 : Bool := (leI r1a 5)
 .br v174 (
 let v175 : Bool := (r1d != 0)
 .br v175 (
 .ret (.inl ())) (
 .call (bautaref15_Can_j12 N t5 r0a r1a r1b r1c r1e) fun y176 => (
 .alt y176 (fun y177 => (
 .ret (.inl ()))) (fun y178 => (
 .ret (.inr ())))))) (
 let v179 : Bool := (leI 9 r1a)
 .br v179 (
 let v180 : Bool := (r1d != 0)
 .br v180 (
 .ret (.inl ())) (
 .call (bautaref15_Can_j12 N t5 r0a r1a r1b r1c r1e) fun y181 => (
 .alt y181 (fun y182 => (
 .ret (.inl ()))) (fun y183 => (
 .ret (.inr ())))))) (
 .call (bautaref15_Can_j12 N t5 r0a r1a r1b r1c r1e) fun y184 => (
 .alt y184 (fun y185 => (
 .ret (.inl ()))) (fun y186 => (
 .ret (.inr ()))))))) (
 let v187 : Bool := (leI 9 r1a)
 .br v187 (
 let v188 : Bool := (r1d != 0)
 .br v188 (
 .ret (.inl ())) (
 .call (bautaref15_Can_j12 N t5 r0a r1a r1b r1c r1e) fun y189 => (
 .alt y189 (fun y190 => (
 .ret (.inl ()))) (fun y191 => (
 .ret (.inr ())))))) (
 .call (bautaref15_Can_j12 N t5 r0a r1a r1b r1c r1e) fun y192 => (
 .alt y192 (fun y193 => (
 .ret (.inl ()))) (fun y194 => (
 .ret (.inr ())))))))) (
 let v195 : Bool := (leI 3 r1a)
 .br v195 (
 let v196 : Bool := (leI r1a 5)
 .br v196 (
 let v197 : Bool := (r1d != 0)
 .br v197 (
 .ret (.inl ())) (
 .call (bautaref15_Can_j12 N t5 r0a r1a r1b r1c r1e) fun y198 => (
 .alt y198 (fun y199 => (
 .ret (.inl ()))) (fun y200 => (
 .ret (.inr ())))))) (
 let v201 : Bool := (leI 9 r1a)
 .br v201 (
 let v202 : Bool := (r1d != 0)
 .br v202 (
 .ret (.inl ())) (
 .call (bautaref15_Can_j12 N t5 r0a r1a r1b r1c r1e) fun y203 => (
 .alt y203 (fun y204 => (
 .ret (.inl ()))) (fun y205 => (
 .ret (.inr ())))))) (
 .call (bautaref15_Can_j12 N t5 r0a r1a r1b r1c r1e) fun y206 => (
 .alt y206 (fun y207 => (
 .ret (.inl ()))) (fun y208 => (
 .ret (.inr ()))))))) (
 let v209 : Bool := (leI 9 r1a)
 .br v209 (
 let v210 : Bool := (r1d != 0)
 .br v210 (
 .ret (.inl ())) (
 .call (bautaref15_Can_j12 N t5 r0a r1a r1b r1c r1e) fun y211 => (
 .alt y211 (fun y212 => (
 .ret (.inl ()))) (fun y213 => (
 .ret (.inr ())))))) (
 .call (bautaref15_Can_j12 N t5 r0a r1a r1b r1c r1e) fun y214 => (
 .alt y214 (fun y215 => (
 .ret (.inl ()))) (fun y216 => (
 .ret (.inr ()))))))))) (
 let v217 : Bool := (leI 6 r1a)
 .br v217 (
 let v218 : Bool := (leI r1a 8)
 .br v218 (
 let v219 : Bool := (ltI 31 r1d)
 .br v219 (
 .ret (.inl ())) (
 let v220 : Bool := (leI 3 r1a)
 .br v220 (
 let v221 : Bool := (leI r1a 5)
 .br v221 (
 let v222 : Bool := (r1d != 0)
 .br v222 (
 .ret (.inl ())) (
 .call (bautaref15_Can_j12 N t5 r0a r1a r1b r1c r1e) fun y223 => (
 .alt y223 (fun y224 => (
 .ret (.inl ()))) (fun y225 => (
 .ret (.inr ())))))) (
 let v226 : Bool := (leI 9 r1a)
 .br v226 (
 let v227 : Bool := (r1d != 0)
 .br v227 (
 .ret (.inl ())) (
 .call (bautaref15_Can_j12 N t5 r0a r1a r1b r1c r1e) fun y228 => (
 .alt y228 (fun y229 => (
 .ret (.inl ()))) (fun y230 => (
 .ret (.inr ())))))) (
 .call (bautaref15_Can_j12 N t5 r0a r1a r1b r1c r1e) fun y231 => (
 .alt y231 (fun y232 => (
 .ret (.inl ()))) (fun y233 => (
 .ret (.inr ()))))))) (
 let v234 : Bool := (leI 9 r1a)
 .br v234 (
 let v235 : Bool := (r1d != 0)
 .br v235 (
 .ret (.inl ())) (
 .call (bautaref15_Can_j12 N t5 r0a r1a r1b r1c r1e) fun y236 => (
 .alt y236 (fun y237 => (
 .ret (.inl ()))) (fun y238 => (
 .ret (.inr ())))))) (
 .call (bautaref15_Can_j12 N t5 r0a r1a r1b r1c r1e) fun y239 => (
 .alt y239 (fun y240 => (
 .ret (.inl ()))) (fun y241 => (
 .ret (.inr ())))))))) (
 let v242 : Bool := (leI 3 r1a)
 .br v242 (
 let v243 : Bool := (leI r1a 5)
 .br v243 (
 let v244 : Bool := (r1d != 0)
 .br v244 (
 .ret (.inl ())) (
 .call (bautaref15_Can_j12 N t5 r0a r1a r1b r1c r1e) fun y245 => (
 .alt y245 (fun y246 => (
 .ret (.inl ()))) (fun y247 => (
 .ret (.inr ())))))) (
 let v248 : Bool := (leI 9 r1a)
 .br v248 (
 let v249 : Bool := (r1d != 0)
 .br v249 (
 .ret (.inl ())) (
 .call (bautaref15_Can_j12 N t5 r0a r1a r1b r1c r1e) fun y250 => (
 .alt y250 (fun y251 => (
 .ret (.inl ()))) (fun y252 => (
 .ret (.inr ())))))) (
 .call (bautaref15_Can_j12 N t5 r0a r1a r1b r1c r1e) fun y253 => (
 .alt y253 (fun y254 => (
 .ret (.inl ()))) (fun y255 => (
 .ret (.inr ()))))))) (
 let v256 : Bool := (leI 9 r1a)
 .br v256 (
 let v257 : Bool := (r1d != 0)
 .br v257 (
 .ret (.inl ())) (
 .call (bautaref15_Can_j12 N t5 r0a r1a r1b r1c r1e) fun y258 => (
 .alt y258 (fun y259 => (
 .ret (.inl ()))) (fun y260 => (
 .ret (.inr ())))))) (
 .call (bautaref15_Can_j12 N t5 r0a r1a r1b r1c r1e) fun y261 => (
 .alt y261 (fun y262 => (
 .ret (.inl ()))) (fun y263 => (
 .ret (.inr ())))))))) (
 let v264 : Bool := (leI 3 r1a)
 .br v264 (
 let v265 : Bool := (leI r1a 5)
 .br v265 (
 let v266 : Bool := (r1d != 0)
 .br v266 (
 .ret (.inl ())) (
 .call (bautaref15_Can_j12 N t5 r0a r1a r1b r1c r1e) fun y267 => (
 .alt y267 (fun y268 => (
 .ret (.inl ()))) (fun y269 => (
 .ret (.inr ())))))) (
 let v270 : Bool := (leI 9 r1a)
 .br v270 (
 let v271 : Bool := (r1d != 0)
 .br v271 (
 .ret (.inl ())) (
 .call (bautaref15_Can_j12 N t5 r0a r1a r1b r1c r1e) fun y272 => (
 .alt y272 (fun y273 => (
 .ret (.inl ()))) (fun y274 => (
 .ret (.inr ())))))) (
 .call (bautaref15_Can_j12 N t5 r0a r1a r1b r1c r1e) fun y275 => (
 .alt y275 (fun y276 => (
 .ret (.inl ()))) (fun y277 => (
 .ret (.inr ()))))))) (
 let v278 : Bool := (leI 9 r1a)
 .br v278 (
 let v279 : Bool := (r1d != 0)
 .br v279 (
 .ret (.inl ())) (
 .call (bautaref15_Can_j12 N t5 r0a r1a r1b r1c r1e) fun y280 => (
 .alt y280 (fun y281 => (
 .ret (.inl ()))) (fun y282 => (
 .ret (.inr ())))))) (
 .call (bautaref15_Can_j12 N t5 r0a r1a r1b r1c r1e) fun y283 => (
 .alt y283 (fun y284 => (
 .ret (.inl ()))) (fun y285 => (
 .ret (.inr ())))))))))
noncomputable def bautaref15_Can_j10 (N : Nat) (t5 : Int) (r0a : (List (Int × (Int × (Int × (Int × Bool)))))) (r0b : Int) (r0c : Int) (r1a : Int) (r1b : Int) (r1c : Int) (r1d : Int) (r1e : Bool) : Option (Unit ⊕ Unit) := (bautaref15_Can_j10_T N t5 r0a r0b r0c r1a r1b r1c r1d r1e).run some
noncomputable def bautaref15_Can_l4_T (N : Nat) (r0a : (List (Int × (Int × (Int × (Int × Bool)))))) (r0b : Int) (r0c : Int) (t3 : Int) : Tree (Int ⊕ (Unit ⊕ Unit)) :=
 let v1 : Int := (r0a.length : Int)
 let v2 : Bool := (ltI t3 v1)
 .br v2 (
 .br (inRange t3 r0a.length) (
 let v3 : (Int × (Int × (Int × (Int × Bool)))) := (r0a.getD t3.toNat (0, (0, (0, (0, false)))))
 .call (bautaref15_Takes N v3.1) fun y4 => (
 let v5 : Bool := (ltI v3.1 0)
 .br v5 (
 .ret (.inr (.inl ()))) (
 let v6 : Bool := (ltI 11 v3.1)
 .br v6 (
 .ret (.inr (.inl ()))) (
 let v7 : Bool := (ltI y4 2)
 .br v7 (
 let v8 : Bool := (v3.2.2.1 != 0)
 .br v8 (
 .ret (.inr (.inl ()))) (
 let v9 : Bool := (ltI y4 1)
 .br v9 (
 let v10 : Bool := (v3.2.1 != 0)
 .br v10 (
 .ret (.inr (.inl ()))) (
 let v11 : Bool := (ltI 0 y4)
 .br v11 (
 let v12 : Bool := (ltI v3.2.1 0)
 .br v12 (
 .ret (.inr (.inl ()))) (
 let v13 : Bool := (leI t3 v3.2.1)
 .br v13 (
 .ret (.inr (.inl ()))) (
 let v14 : Bool := (ltI 1 y4)
 .br v14 (
 let v15 : Bool := (ltI v3.2.2.1 0)
 .br v15 (
 .ret (.inr (.inl ()))) (
 let v16 : Bool := (leI t3 v3.2.2.1)
 .br v16 (
 .ret (.inr (.inl ()))) (
 .call (bautaref15_Can_j10 N y4 r0a r0b r0c v3.1 v3.2.1 v3.2.2.1 v3.2.2.2.1 v3.2.2.2.2) fun y17 => (
 .alt y17 (fun y18 => (
 .ret (.inr (.inl ())))) (fun y19 => (
 let v20 : Int := (IntKind.i64.wrap (t3 + 1))
 .ret (.inl v20))))))) (
 .call (bautaref15_Can_j10 N y4 r0a r0b r0c v3.1 v3.2.1 v3.2.2.1 v3.2.2.2.1 v3.2.2.2.2) fun y21 => (
 .alt y21 (fun y22 => (
 .ret (.inr (.inl ())))) (fun y23 => (
 let v24 : Int := (IntKind.i64.wrap (t3 + 1))
 .ret (.inl v24)))))))) (
 let v25 : Bool := (ltI 1 y4)
 .br v25 (
 let v26 : Bool := (ltI v3.2.2.1 0)
 .br v26 (
 .ret (.inr (.inl ()))) (
 let v27 : Bool := (leI t3 v3.2.2.1)
 .br v27 (
 .ret (.inr (.inl ()))) (
 .call (bautaref15_Can_j10 N y4 r0a r0b r0c v3.1 v3.2.1 v3.2.2.1 v3.2.2.2.1 v3.2.2.2.2) fun y28 => (
 .alt y28 (fun y29 => (
 .ret (.inr (.inl ())))) (fun y30 => (
 let v31 : Int := (IntKind.i64.wrap (t3 + 1))
 .ret (.inl v31))))))) (
 .call (bautaref15_Can_j10 N y4 r0a r0b r0c v3.1 v3.2.1 v3.2.2.1 v3.2.2.2.1 v3.2.2.2.2) fun y32 => (
 .alt y32 (fun y33 => (
 .ret (.inr (.inl ())))) (fun y34 => (
 let v35 : Int := (IntKind.i64.wrap (t3 + 1))
 .ret (.inl v35)))))))) (
 let v36 : Bool := (ltI 0 y4)
 .br v36 (
 let v37 : Bool := (ltI v3.2.1 0)
 .br v37 (
 .ret (.inr (.inl ()))) (
 let v38 : Bool := (leI t3 v3.2.1)
 .br v38 (
 .ret (.inr (.inl ()))) (
 let v39 : Bool := (ltI 1 y4)
 .br v39 (
 let v40 : Bool := (ltI v3.2.2.1 0)
 .br v40 (
 .ret (.inr (.inl ()))) (
 let v41 : Bool := (leI t3 v3.2.2.1)
 .br v41 (
 .ret (.inr (.inl ()))) (
 .call (bautaref15_Can_j10 N y4 r0a r0b r0c v3.1 v3.2.1 v3.2.2.1 v3.2.2.2.1 v3.2.2.2.2) fun y42 => (
 .alt y42 (fun y43 => (
 .ret (.inr (.inl ())))) (fun y44 => (
 let v45 : Int := (IntKind.i64.wrap (t3 + 1))
 .ret (.inl v45))))))) (
 .call (bautaref15_Can_j10 N y4 r0a r0b r0c v3.1 v3.2.1 v3.2.2.1 v3.2.2.2.1 v3.2.2.2.2) fun y46 => (
 .alt y46 (fun y47 => (
 .ret (.inr (.inl ())))) (fun y48 => (
 let v49 : Int := (IntKind.i64.wrap (t3 + 1))
 .ret (.inl v49)))))))) (
 let v50 : Bool := (ltI 1 y4)
 .br v50 (
 let v51 : Bool := (ltI v3.2.2.1 0)
 .br v51 (
 .ret (.inr (.inl ()))) (
 let v52 : Bool := (leI t3 v3.2.2.1)
 .br v52 (
 .ret (.inr (.inl ()))) (
 .call (bautaref15_Can_j10 N y4 r0a r0b r0c v3.1 v3.2.1 v3.2.2.1 v3.2.2.2.1 v3.2.2.2.2) fun y53 => (
 .alt y53 (fun y54 => (
 .ret (.inr (.inl ())))) (fun y55 => (
 let v56 : Int := (IntKind.i64.wrap (t3 + 1))
 .ret (.inl v56))))))) (
 .call (bautaref15_Can_j10 N y4 r0a r0b r0c v3.1 v3.2.1 v3.2.2.1 v3.2.2.2.1 v3.2.2.2.2) fun y57 => (
 .alt y57 (fun y58 => (
 .ret (.inr (.inl ())))) (fun y59 => (
 let v60 : Int := (IntKind.i64.wrap (t3 + 1))
 .ret (.inl v60))))))))) (
 let v61 : Bool := (ltI y4 1)
 .br v61 (
 let v62 : Bool := (v3.2.1 != 0)
 .br v62 (
 .ret (.inr (.inl ()))) (
 let v63 : Bool := (ltI 0 y4)
 .br v63 (
 let v64 : Bool := (ltI v3.2.1 0)
 .br v64 (
 .ret (.inr (.inl ()))) (
 let v65 : Bool := (leI t3 v3.2.1)
 .br v65 (
 .ret (.inr (.inl ()))) (
 let v66 : Bool := (ltI 1 y4)
 .br v66 (
 let v67 : Bool := (ltI v3.2.2.1 0)
 .br v67 (
 .ret (.inr (.inl ()))) (
 let v68 : Bool := (leI t3 v3.2.2.1)
 .br v68 (
 .ret (.inr (.inl ()))) (
 .call (bautaref15_Can_j10 N y4 r0a r0b r0c v3.1 v3.2.1 v3.2.2.1 v3.2.2.2.1 v3.2.2.2.2) fun y69 => (
 .alt y69 (fun y70 => (
 .ret (.inr (.inl ())))) (fun y71 => (
 let v72 : Int := (IntKind.i64.wrap (t3 + 1))
 .ret (.inl v72))))))) (
 .call (bautaref15_Can_j10 N y4 r0a r0b r0c v3.1 v3.2.1 v3.2.2.1 v3.2.2.2.1 v3.2.2.2.2) fun y73 => (
 .alt y73 (fun y74 => (
 .ret (.inr (.inl ())))) (fun y75 => (
 let v76 : Int := (IntKind.i64.wrap (t3 + 1))
 .ret (.inl v76)))))))) (
 let v77 : Bool := (ltI 1 y4)
 .br v77 (
 let v78 : Bool := (ltI v3.2.2.1 0)
 .br v78 (
 .ret (.inr (.inl ()))) (
 let v79 : Bool := (leI t3 v3.2.2.1)
 .br v79 (
 .ret (.inr (.inl ()))) (
 .call (bautaref15_Can_j10 N y4 r0a r0b r0c v3.1 v3.2.1 v3.2.2.1 v3.2.2.2.1 v3.2.2.2.2) fun y80 => (
 .alt y80 (fun y81 => (
 .ret (.inr (.inl ())))) (fun y82 => (
 let v83 : Int := (IntKind.i64.wrap (t3 + 1))
 .ret (.inl v83))))))) (
 .call (bautaref15_Can_j10 N y4 r0a r0b r0c v3.1 v3.2.1 v3.2.2.1 v3.2.2.2.1 v3.2.2.2.2) fun y84 => (
 .alt y84 (fun y85 => (
 .ret (.inr (.inl ())))) (fun y86 => (
 let v87 : Int := (IntKind.i64.wrap (t3 + 1))
 .ret (.inl v87)))))))) (
 let v88 : Bool := (ltI 0 y4)
 .br v88 (
 let v89 : Bool := (ltI v3.2.1 0)
 .br v89 (
 .ret (.inr (.inl ()))) (
 let v90 : Bool := (leI t3 v3.2.1)
 .br v90 (
 .ret (.inr (.inl ()))) (
 let v91 : Bool := (ltI 1 y4)
 .br v91 (
 let v92 : Bool := (ltI v3.2.2.1 0)
 .br v92 (
 .ret (.inr (.inl ()))) (
 let v93 : Bool := (leI t3 v3.2.2.1)
 .br v93 (
 .ret (.inr (.inl ()))) (
 .call (bautaref15_Can_j10 N y4 r0a r0b r0c v3.1 v3.2.1 v3.2.2.1 v3.2.2.2.1 v3.2.2.2.2) fun y94 => (
 .alt y94 (fun y95 => (
 .ret (.inr (.inl ())))) (fun y96 => (
 let v97 : Int := (IntKind.i64.wrap (t3 + 1))
 .ret (.inl v97))))))) (
 .call (bautaref15_Can_j10 N y4 r0a r0b r0c v3.1 v3.2.1 v3.2.2.1 v3.2.2.2.1 v3.2.2.2.2) fun y98 => (
 .alt y98 (fun y99 => (
 .ret (.inr (.inl ())))) (fun y100 => (
 let v101 : Int := (IntKind.i64.wrap (t3 + 1))
 .ret (.inl v101)))))))) (
 let v102 : Bool := (ltI 1 y4)
 .br v102 (
 let v103 : Bool := (ltI v3.2.2.1 0)
 .br v103 (
 .ret (.inr (.inl ()))) (
 let v104 : Bool := (leI t3 v3.2.2.1)
 .br v104 (
 .ret (.inr (.inl ()))) (
 .call (bautaref15_Can_j10 N y4 r0a r0b r0c v3.1 v3.2.1 v3.2.2.1 v3.2.2.2.1 v3.2.2.2.2) fun y105 => (
 .alt y105 (fun y106 => (
 .ret (.inr (.inl ())))) (fun y107 => (
 let v108 : Int := (IntKind.i64.wrap (t3 + 1))
 .ret (.inl v108))))))) (
 .call (bautaref15_Can_j10 N y4 r0a r0b r0c v3.1 v3.2.1 v3.2.2.1 v3.2.2.2.1 v3.2.2.2.2) fun y109 => (
 .alt y109 (fun y110 => (
 .ret (.inr (.inl ())))) (fun y111 => (
 let v112 : Int := (IntKind.i64.wrap (t3 + 1))
 .ret (.inl v112)))))))))))) .fail) (
 .ret (.inr (.inr ())))
noncomputable def bautaref15_Can_l4 (N : Nat) (r0a : (List (Int × (Int × (Int × (Int × Bool)))))) (r0b : Int) (r0c : Int) (v : Int) : Option (Unit ⊕ Unit) := loopN (fun v => bautaref15_Can_l4_T N r0a r0b r0c v) N v
noncomputable def bautaref15_Can_l16_T (N : Nat) (r0a : (List (Int × (Int × (Int × (Int × Bool)))))) (r0d : (List (ByteArray × Int))) (t7 : Int) : Tree (Int ⊕ (Unit ⊕ Unit)) :=
 let v1 : Int := (r0d.length : Int)
 let v2 : Bool := (ltI t7 v1)
 .br v2 (
 .br (inRange t7 r0d.length) (
 let v3 : (ByteArray × Int) := (r0d.getD t7.toNat (ByteArray.empty, 0))
 let v4 : Bool := (ltI v3.2 0)
 .br v4 (
 .ret (.inr (.inl ()))) (
 .br (inRange t7 r0d.length) (
 let v5 : (ByteArray × Int) := (r0d.getD t7.toNat (ByteArray.empty, 0))
 let v6 : Int := (r0a.length : Int)
 let v7 : Bool := (leI v6 v5.2)
 .br v7 (
 .ret (.inr (.inl ()))) (
 let v8 : Int := (IntKind.i64.wrap (t7 + 1))
 .ret (.inl v8))) .fail)) .fail) (
 .ret (.inr (.inr ())))
noncomputable def bautaref15_Can_l16 (N : Nat) (r0a : (List (Int × (Int × (Int × (Int × Bool)))))) (r0d : (List (ByteArray × Int))) (v : Int) : Option (Unit ⊕ Unit) := loopN (fun v => bautaref15_Can_l16_T N r0a r0d v) N v
noncomputable def bautaref15_Can_j3_T (N : Nat) (r0a : (List (Int × (Int × (Int × (Int × Bool)))))) (r0b : Int) (r0c : Int) (r0d : (List (ByteArray × Int))) : Tree Bool :=
 .call (bautaref15_Can_l4 N r0a r0b r0c 0) fun y1 => (
 .alt y1 (fun y2 => (
 .ret false)) (fun y3 => (
 .call (bautaref15_Can_l16 N r0a r0d 0) fun y4 => (
 .alt y4 (fun y5 => (
 .ret false)) (fun y6 => (
 .ret true))))))
noncomputable def bautaref15_Can_j3 (N : Nat) (r0a : (List (Int × (Int × (Int × (Int × Bool)))))) (r0b : Int) (r0c : Int) (r0d : (List (ByteArray × Int))) : Option Bool := (bautaref15_Can_j3_T N r0a r0b r0c r0d).run some
noncomputable def bautaref15_Can_T (N : Nat) (t0a : (List (Int × (Int × (Int × (Int × Bool)))))) (t0b : Int) (t0c : Int) (t0d : (List (ByteArray × Int))) : Tree Bool :=
 let v1 : Bool := (ltI t0b 0)
 .br v1 (
 .ret false) (
 let v2 : Bool := (ltI 1000 t0b)
 .br v2 (
 .ret false) (
 let v3 : Bool := (ltI t0c 0)
 .br v3 (
 .ret false) (
 let v4 : Bool := (ltI 1000 t0c)
 .br v4 (
 .ret false) (
 let v5 : Int := (t0a.length : Int)
 let v6 : Bool := (ltI 8000 v5)
 .br v6 (
 .ret false) (
 .call (bautaref15_Can_j3 N t0a t0b t0c t0d) fun y7 => (
 .ret y7))))))
noncomputable def bautaref15_Can (N : Nat) (t0a : (List (Int × (Int × (Int × (Int × Bool)))))) (t0b : Int) (t0c : Int) (t0d : (List (ByteArray × Int))) : Option Bool := (bautaref15_Can_T N t0a t0b t0c t0d).run some
/-! ### bauta/lex.each -/
noncomputable def q8_T (N : Nat) : Tree Unit :=
 .ret ()
noncomputable def q8 (N : Nat) : Option Unit := (q8_T N).run some
/-! ### bauta/lex.blank$1 -/
noncomputable def q9_T (N : Nat) (t0 : Int) : Tree Bool :=
 let v1 : Bool := (t0 == 32)
 .br v1 (
 .ret true) (
 let v2 : Bool := (t0 == 9)
 .br v2 (
 .ret true) (
 let v3 : Bool := (t0 == 10)
 .ret v3))
noncomputable def q9 (N : Nat) (t0 : Int) : Option Bool := (q9_T N t0).run some
/-! ### bauta/lex.run -/
noncomputable def q10_l2_T (N : Nat) (t0 : ByteArray) (t5 : Int) : Tree (Int ⊕ Int) :=
 let v1 : Int := (t0.size : Int)
 let v2 : Bool := (ltI t5 v1)
 .br v2 (
 .br (inRange t5 t0.size) (
 let v3 : Int := (bAt t0 t5.toNat)
 .call (q9 N v3) fun y4 => (
 .br y4 (
 let v5 : Int := (IntKind.i64.wrap (t5 + 1))
 .ret (.inl v5)) (
 .ret (.inr t5)))) .fail) (
 .ret (.inr t5))
noncomputable def q10_l2 (N : Nat) (t0 : ByteArray) (v : Int) : Option Int := loopN (fun v => q10_l2_T N t0 v) N v
noncomputable def q10_T (N : Nat) (t0 : ByteArray) : Tree Int :=
 .call (q10_l2 N t0 0) fun y1 => (
 .ret y1)
noncomputable def q10 (N : Nat) (t0 : ByteArray) : Option Int := (q10_T N t0).run some
/-! ### internal/stringslite.HasPrefix -/
noncomputable def q11_T (N : Nat) (t0 : ByteArray) (t1 : ByteArray) : Tree Bool :=
 let v1 : Int := (t0.size : Int)
 let v2 : Int := (t1.size : Int)
 let v3 : Bool := (leI v2 v1)
 .br v3 (
 let v4 : Int := (t1.size : Int)
 .br (leI 0 v4 && leI v4 (t0.size : Int)) (
 let v5 : ByteArray := (t0.extract 0 v4.toNat)
 let v6 : Bool := (v5.toList == t1.toList)
 .ret v6) .fail) (
 .ret false)
noncomputable def q11 (N : Nat) (t0 : ByteArray) (t1 : ByteArray) : Option Bool := (q11_T N t0 t1).run some
/-! ### strings.HasPrefix -/
noncomputable def q12_T (N : Nat) (t0 : ByteArray) (t1 : ByteArray) : Tree Bool :=
 .call (q11 N t0 t1) fun y1 => (
 .ret y1)
noncomputable def q12 (N : Nat) (t0 : ByteArray) (t1 : ByteArray) : Option Bool := (q12_T N t0 t1).run some
/-! ### bauta/lex.blank$2 -/
noncomputable def q13_T (N : Nat) (t0 : Int) : Tree Bool :=
 let v1 : Bool := (t0 != 10)
 .ret v1
noncomputable def q13 (N : Nat) (t0 : Int) : Option Bool := (q13_T N t0).run some
/-! ### bauta/lex.run -/
noncomputable def q14_l2_T (N : Nat) (t0 : ByteArray) (t5 : Int) : Tree (Int ⊕ Int) :=
 let v1 : Int := (t0.size : Int)
 let v2 : Bool := (ltI t5 v1)
 .br v2 (
 .br (inRange t5 t0.size) (
 let v3 : Int := (bAt t0 t5.toNat)
 .call (q13 N v3) fun y4 => (
 .br y4 (
 let v5 : Int := (IntKind.i64.wrap (t5 + 1))
 .ret (.inl v5)) (
 .ret (.inr t5)))) .fail) (
 .ret (.inr t5))
noncomputable def q14_l2 (N : Nat) (t0 : ByteArray) (v : Int) : Option Int := loopN (fun v => q14_l2_T N t0 v) N v
noncomputable def q14_T (N : Nat) (t0 : ByteArray) : Tree Int :=
 .call (q14_l2 N t0 0) fun y1 => (
 .ret y1)
noncomputable def q14 (N : Nat) (t0 : ByteArray) : Option Int := (q14_T N t0).run some
/-! ### bauta/lex.blank -/
noncomputable def q15_j5_T (N : Nat) (t3 : Int) (t4 : Int) : Tree (Unit ⊕ Int) :=
 let v1 : Bool := (t4 == 0)
 .br v1 (
 .ret (.inl ())) (
 let v2 : Int := (IntKind.i64.wrap (t3 + t4))
 .ret (.inr v2))
noncomputable def q15_j5 (N : Nat) (t3 : Int) (t4 : Int) : Option (Unit ⊕ Int) := (q15_j5_T N t3 t4).run some
noncomputable def q15_l2_T (N : Nat) (t0 : ByteArray) (t3 : Int) : Tree (Int ⊕ Int) :=
 .br (leI 0 t3 && leI t3 (t0.size : Int)) (
 let v1 : ByteArray := (t0.extract t3.toNat t0.size)
 .call (q10 N v1) fun y2 => (
 let v3 : Int := (IntKind.i64.wrap (t3 + y2))
 .br (leI 0 v3 && leI v3 (t0.size : Int)) (
 let v4 : ByteArray := (t0.extract v3.toNat t0.size)
 .call (q12 N v4 (⟨#[47, 47]⟩ : ByteArray)) fun y5 => (
 .br y5 (
 let v6 : Int := (IntKind.i64.wrap (t3 + y2))
 .br (leI 0 v6 && leI v6 (t0.size : Int)) (
 let v7 : ByteArray := (t0.extract v6.toNat t0.size)
 .call (q14 N v7) fun y8 => (
 let v9 : Int := (IntKind.i64.wrap (y2 + y8))
 .call (q15_j5 N t3 v9) fun y10 => (
 .alt y10 (fun y11 => (
 .ret (.inr t3))) (fun y12 => (
 .ret (.inl y12)))))) .fail) (
 .call (q15_j5 N t3 y2) fun y13 => (
 .alt y13 (fun y14 => (
 .ret (.inr t3))) (fun y15 => (
 .ret (.inl y15))))))) .fail)) .fail
noncomputable def q15_l2 (N : Nat) (t0 : ByteArray) (v : Int) : Option Int := loopN (fun v => q15_l2_T N t0 v) N v
noncomputable def q15_T (N : Nat) (t0 : ByteArray) : Tree Int :=
 .call (q15_l2 N t0 0) fun y1 => (
 .ret y1)
noncomputable def q15 (N : Nat) (t0 : ByteArray) : Option Int := (q15_T N t0).run some
/-! ### bauta/lex.letter -/
noncomputable def q16_T (N : Nat) (t0 : Int) : Tree Bool :=
 let v1 : Bool := (leI 65 t0)
 .br v1 (
 let v2 : Bool := (leI t0 90)
 .br v2 (
 .ret true) (
 let v3 : Bool := (leI 97 t0)
 .br v3 (
 let v4 : Bool := (leI t0 122)
 .ret v4) (
 .ret false))) (
 let v5 : Bool := (leI 97 t0)
 .br v5 (
 let v6 : Bool := (leI t0 122)
 .ret v6) (
 .ret false))
noncomputable def q16 (N : Nat) (t0 : Int) : Option Bool := (q16_T N t0).run some
/-! ### bauta/lex.digit -/
noncomputable def q17_T (N : Nat) (t0 : Int) : Tree Bool :=
 let v1 : Bool := (leI 48 t0)
 .br v1 (
 let v2 : Bool := (leI t0 57)
 .ret v2) (
 .ret false)
noncomputable def q17 (N : Nat) (t0 : Int) : Option Bool := (q17_T N t0).run some
/-! ### bauta/lex.inner -/
noncomputable def q18_T (N : Nat) (t0 : Int) : Tree Bool :=
 .call (q16 N t0) fun y1 => (
 .br y1 (
 .ret true) (
 .call (q17 N t0) fun y2 => (
 .br y2 (
 .ret true) (
 let v3 : Bool := (t0 == 95)
 .ret v3))))
noncomputable def q18 (N : Nat) (t0 : Int) : Option Bool := (q18_T N t0).run some
/-! ### bauta/lex.run -/
noncomputable def q19_l2_T (N : Nat) (t0 : ByteArray) (t5 : Int) : Tree (Int ⊕ Int) :=
 let v1 : Int := (t0.size : Int)
 let v2 : Bool := (ltI t5 v1)
 .br v2 (
 .br (inRange t5 t0.size) (
 let v3 : Int := (bAt t0 t5.toNat)
 .call (q18 N v3) fun y4 => (
 .br y4 (
 let v5 : Int := (IntKind.i64.wrap (t5 + 1))
 .ret (.inl v5)) (
 .ret (.inr t5)))) .fail) (
 .ret (.inr t5))
noncomputable def q19_l2 (N : Nat) (t0 : ByteArray) (v : Int) : Option Int := loopN (fun v => q19_l2_T N t0 v) N v
noncomputable def q19_T (N : Nat) (t0 : ByteArray) : Tree Int :=
 .call (q19_l2 N t0 0) fun y1 => (
 .ret y1)
noncomputable def q19 (N : Nat) (t0 : ByteArray) : Option Int := (q19_T N t0).run some
/-! ### strings.Contains -/
/-! ### bauta/lex.isWord -/
noncomputable def q20_T (N : Nat) (t0 : ByteArray) : Tree Bool :=
 let v1 : Bool := (!(t0.toList == ByteArray.empty.toList))
 .br v1 (
 .call (strings_Contains N t0 (⟨#[32]⟩ : ByteArray)) fun y2 => (
 let v3 : Bool := (!y2)
 .br v3 (
 .br (leI (((⟨#[32]⟩ : ByteArray).size : Int) + t0.size) 9223372036854775807) (
 let v4 : ByteArray := ((⟨#[32]⟩ : ByteArray) ++ t0)
 .br (leI ((v4.size : Int) + (⟨#[32]⟩ : ByteArray).size) 9223372036854775807) (
 let v5 : ByteArray := (v4 ++ (⟨#[32]⟩ : ByteArray))
 .call (strings_Contains N (⟨#[32, 115, 101, 99, 114, 101, 116, 32, 112, 117, 98, 108, 105, 99, 32, 111, 117, 116, 32, 115, 104, 111, 119, 32, 102, 111, 114, 32, 105, 110, 32, 102, 110, 32]⟩ : ByteArray) v5) fun y6 => (
 .ret y6)) .fail) .fail) (
 .ret false))) (
 .ret false)
noncomputable def q20 (N : Nat) (t0 : ByteArray) : Option Bool := (q20_T N t0).run some
/-! ### bauta/lex.next$1 -/
noncomputable def q21_T (N : Nat) (t0 : Int) : Tree Bool :=
 .call (q16 N t0) fun y1 => (
 .br y1 (
 .ret true) (
 .call (q17 N t0) fun y2 => (
 .ret y2)))
noncomputable def q21 (N : Nat) (t0 : Int) : Option Bool := (q21_T N t0).run some
/-! ### bauta/lex.run -/
noncomputable def q22_l2_T (N : Nat) (t0 : ByteArray) (t5 : Int) : Tree (Int ⊕ Int) :=
 let v1 : Int := (t0.size : Int)
 let v2 : Bool := (ltI t5 v1)
 .br v2 (
 .br (inRange t5 t0.size) (
 let v3 : Int := (bAt t0 t5.toNat)
 .call (q21 N v3) fun y4 => (
 .br y4 (
 let v5 : Int := (IntKind.i64.wrap (t5 + 1))
 .ret (.inl v5)) (
 .ret (.inr t5)))) .fail) (
 .ret (.inr t5))
noncomputable def q22_l2 (N : Nat) (t0 : ByteArray) (v : Int) : Option Int := loopN (fun v => q22_l2_T N t0 v) N v
noncomputable def q22_T (N : Nat) (t0 : ByteArray) : Tree Int :=
 .call (q22_l2 N t0 0) fun y1 => (
 .ret y1)
noncomputable def q22 (N : Nat) (t0 : ByteArray) : Option Int := (q22_T N t0).run some
/-! ### strings.IndexByte -/
/-! ### bauta/lex.next -/
noncomputable def q23_l12_T (N : Nat) (t0 : ByteArray) (t28a : ByteArray) (t28b : ByteArray) (t28c : ByteArray) (t28d : ByteArray) (t29 : Int) : Tree (Int ⊕ (Int ⊕ Unit)) :=
 let v1 : Bool := (ltI t29 4)
 .br v1 (
 .br (inRange t29 4) (
 let v2 : ByteArray := (bif (decide (t29 = 3)) then t28d else (bif (decide (t29 = 2)) then t28c else (bif (decide (t29 = 1)) then t28b else t28a)))
 .call (q12 N t0 v2) fun y3 => (
 .br y3 (
 let v4 : Int := (v2.size : Int)
 .ret (.inr (.inl v4))) (
 let v5 : Int := (IntKind.i64.wrap (t29 + 1))
 .ret (.inl v5)))) .fail) (
 .ret (.inr (.inr ())))
noncomputable def q23_l12 (N : Nat) (t0 : ByteArray) (t28a : ByteArray) (t28b : ByteArray) (t28c : ByteArray) (t28d : ByteArray) (v : Int) : Option (Int ⊕ Unit) := loopN (fun v => q23_l12_T N t0 t28a t28b t28c t28d v) N v
noncomputable def q23_T (N : Nat) (t0 : ByteArray) : Tree (Int × Int) :=
 .br (inRange 0 t0.size) (
 let v1 : Int := (bAt t0 0)
 .call (q16 N v1) fun y2 => (
 .br y2 (
 .call (q19 N t0) fun y3 => (
 .br (leI 0 y3 && leI y3 (t0.size : Int)) (
 let v4 : ByteArray := (t0.extract 0 y3.toNat)
 .call (q20 N v4) fun y5 => (
 .br y5 (
 .ret (3, y3)) (
 let v6 : Bool := (ltI 32 y3)
 .br v6 (
 .ret (0, (-1))) (
 .ret (1, y3))))) .fail)) (
 .call (q17 N v1) fun y7 => (
 .br y7 (
 .call (q22 N t0) fun y8 => (
 .ret (2, y8))) (
 .call (q23_l12 N t0 (⟨#[60, 60, 60]⟩ : ByteArray) (⟨#[60, 60]⟩ : ByteArray) (⟨#[62, 62]⟩ : ByteArray) (⟨#[46, 46]⟩ : ByteArray) 0) fun y9 => (
 .alt y9 (fun y10 => (
 .ret (4, y10))) (fun y11 => (
 .br (inRange 0 t0.size) (
 let v12 : Int := (bAt t0 0)
 .call (strings_IndexByte N (⟨#[61, 59, 44, 40, 41, 123, 125, 43, 45, 38, 124, 94, 126]⟩ : ByteArray) v12) fun y13 => (
 let v14 : Bool := (leI 0 y13)
 .br v14 (
 .ret (4, 1)) (
 .ret (0, (-1))))) .fail)))))))) .fail
noncomputable def q23 (N : Nat) (t0 : ByteArray) : Option (Int × Int) := (q23_T N t0).run some
/-! ### bauta/lex.Words.round5 -/
noncomputable def q24_j9_T (N : Nat) (t7 : Int) (r5a : Int) (r5b : ByteArray) (r5c : Int) (r7 : (List (Int × (ByteArray × Int)))) : Tree (Unit ⊕ (List (Int × (ByteArray × Int)))) :=
 let v1 : Bool := (t7 != 0)
 .br v1 (
 .ret (.inl ())) (
 .br (ltI (((r7.length : Int) + 1) * 32) 140737488355328) (
 let v2 : (List (Int × (ByteArray × Int))) := (r7 ++ [(r5a, (r5b, r5c))])
 .ret (.inr v2)) .fail)
noncomputable def q24_j9 (N : Nat) (t7 : Int) (r5a : Int) (r5b : ByteArray) (r5c : Int) (r7 : (List (Int × (ByteArray × Int)))) : Option (Unit ⊕ (List (Int × (ByteArray × Int)))) := (q24_j9_T N t7 r5a r5b r5c r7).run some
noncomputable def q24_T (N : Nat) (t0a : Int) (t0b : ByteArray) (t0c : Int) (t1 : Int) (r5 : (List (Int × (ByteArray × Int)))) : Tree (Int ⊕ (List (Int × (ByteArray × Int)))) :=
 let v1 : Bool := (t1 == 0)
 .br v1 (
 let v2 : Int := (r5.length : Int)
 let v3 : Bool := (v2 == 4000)
 .br v3 (
 .call (q24_j9 N 150 t0a t0b t0c r5) fun y4 => (
 .alt y4 (fun y5 => (
 .ret (.inl 150))) (fun y6 => (
 .ret (.inr y6))))) (
 .call (q24_j9 N t1 t0a t0b t0c r5) fun y7 => (
 .alt y7 (fun y8 => (
 .ret (.inl t1))) (fun y9 => (
 .ret (.inr y9)))))) (
 .call (q24_j9 N t1 t0a t0b t0c r5) fun y10 => (
 .alt y10 (fun y11 => (
 .ret (.inl t1))) (fun y12 => (
 .ret (.inr y12)))))
noncomputable def q24 (N : Nat) (t0a : Int) (t0b : ByteArray) (t0c : Int) (t1 : Int) (r5 : (List (Int × (ByteArray × Int)))) : Option (Int ⊕ (List (Int × (ByteArray × Int)))) := (q24_T N t0a t0b t0c t1 r5).run some
/-! ### bauta/lex.each$1 -/
noncomputable def q25_l1_T (N : Nat) (r1 : ByteArray) (t3 : Int) (r7 : (List (Int × (ByteArray × Int)))) : Tree ((Int × (List (Int × (ByteArray × Int)))) ⊕ ((Int × Int × (List (Int × (ByteArray × Int)))) ⊕ (List (Int × (ByteArray × Int))) ⊕ (List (Int × (ByteArray × Int))))) :=
 let v1 : Int := (r1.size : Int)
 let v2 : Bool := (ltI t3 v1)
 .br v2 (
 .br (leI 0 t3 && leI t3 (r1.size : Int)) (
 let v3 : ByteArray := (r1.extract t3.toNat r1.size)
 .call (q23 N v3) fun y4 => (
 let v5 : Bool := (ltI y4.2 0)
 .br v5 (
 .call (q24 N 0 ByteArray.empty t3 100 r7) fun y6 => (
 .alt y6 (fun y7 => (
 .ret (.inr (.inl (t3, y7, r7))))) (fun y8 => (
 .ret (.inr (.inr (.inl y8))))))) (
 let v9 : Int := (IntKind.i64.wrap (t3 + y4.2))
 .br (leI 0 t3 && (leI t3 v9 && leI v9 (r1.size : Int))) (
 let v10 : ByteArray := (r1.extract t3.toNat v9.toNat)
 .call (q24 N y4.1 v10 t3 0 r7) fun y11 => (
 .alt y11 (fun y12 => (
 .ret (.inr (.inl (t3, y12, r7))))) (fun y13 => (
 let v14 : Int := (IntKind.i64.wrap (t3 + y4.2))
 .br (leI 0 v14 && leI v14 (r1.size : Int)) (
 let v15 : ByteArray := (r1.extract v14.toNat r1.size)
 .call (q15 N v15) fun y16 => (
 let v17 : Int := (IntKind.i64.wrap (v14 + y16))
 .ret (.inl (v17, y13)))) .fail)))) .fail))) .fail) (
 .ret (.inr (.inr (.inr r7))))
noncomputable def q25_l1 (N : Nat) (r1 : ByteArray) (v : (Int × (List (Int × (ByteArray × Int))))) : Option ((Int × Int × (List (Int × (ByteArray × Int)))) ⊕ (List (Int × (ByteArray × Int))) ⊕ (List (Int × (ByteArray × Int)))) := loopN (fun v => q25_l1_T N r1 v.1 v.2) N v
noncomputable def q25_T (N : Nat) (r1 : ByteArray) (r6 : (List (Int × (ByteArray × Int)))) : Tree ((Int × Int × (List (Int × (ByteArray × Int)))) ⊕ (List (Int × (ByteArray × Int)))) :=
 .call (q15 N r1) fun y1 => (
 .call (q25_l1 N r1 (y1, r6)) fun y2 => (
 .alt y2 (fun y3 => (
 .ret (.inl (y3.1, y3.2.1, y3.2.2)))) (fun y4 => (
 .alt y4 (fun y5 => (
 .ret (.inr y5))) (fun y6 => (
 let v7 : Int := (r1.size : Int)
 .call (q24 N 0 ByteArray.empty v7 0 y6) fun y8 => (
 .alt y8 (fun y9 => (
 .ret (.inl (v7, y9, y6)))) (fun y10 => (
 .ret (.inr y10))))))))))
noncomputable def q25 (N : Nat) (r1 : ByteArray) (r6 : (List (Int × (ByteArray × Int)))) : Option ((Int × Int × (List (Int × (ByteArray × Int)))) ⊕ (List (Int × (ByteArray × Int)))) := (q25_T N r1 r6).run some
/-! ### bauta/lex.Words -/
noncomputable def q26_T (N : Nat) (t0 : ByteArray) : Tree (Int × Int × (List (Int × (ByteArray × Int)))) :=
 let v1 : Int := (t0.size : Int)
 let v2 : Bool := (ltI 20000 v1)
 .br v2 (
 .ret (0, 150, [])) (
 .call (q8 N) fun y3 => (
 .call (q25 N t0 []) fun y4 => (
 .alt y4 (fun y5 => (
 .ret (y5.1, y5.2.1, []))) (fun y6 => (
 .ret (0, 0, y6))))))
noncomputable def q26 (N : Nat) (t0 : ByteArray) : Option (Int × Int × (List (Int × (ByteArray × Int)))) := (q26_T N t0).run some
/-! ### (*bauta/parse.tokens).tok -/
noncomputable def q27_T (N : Nat) (r0 : Int) (r1 : (List (Int × (ByteArray × Int)))) : Tree (Int × ByteArray × Int) :=
 .br (inRange r0 r1.length) (
 let v1 : (Int × (ByteArray × Int)) := (r1.getD r0.toNat (0, (ByteArray.empty, 0)))
 .ret (v1.1, v1.2.1, v1.2.2)) .fail
noncomputable def q27 (N : Nat) (r0 : Int) (r1 : (List (Int × (ByteArray × Int)))) : Option (Int × ByteArray × Int) := (q27_T N r0 r1).run some
/-! ### bauta/parse.node -/
noncomputable def q28_T (N : Nat) : Tree Unit :=
 .ret ()
noncomputable def q28 (N : Nat) : Option Unit := (q28_T N).run some
/-! ### slices.Index[[]string,string] -/
noncomputable def q29_l2_T (N : Nat) (t0 : (List ByteArray)) (t1 : ByteArray) (t7 : Int) (t8 : Int) : Tree (Int ⊕ (Int ⊕ Unit)) :=
 let v1 : Bool := (ltI t8 t7)
 .br v1 (
 .br (inRange t8 t0.length) (
 let v2 : ByteArray := (t0.getD t8.toNat ByteArray.empty)
 let v3 : Bool := (t1.toList == v2.toList)
 .br v3 (
 .ret (.inr (.inl t8))) (
 let v4 : Int := (IntKind.i64.wrap (t8 + 1))
 .ret (.inl v4))) .fail) (
 .ret (.inr (.inr ())))
noncomputable def q29_l2 (N : Nat) (t0 : (List ByteArray)) (t1 : ByteArray) (t7 : Int) (v : Int) : Option (Int ⊕ Unit) := loopN (fun v => q29_l2_T N t0 t1 t7 v) N v
noncomputable def q29_T (N : Nat) (t0 : (List ByteArray)) (t1 : ByteArray) : Tree Int :=
 let v1 : Int := (t0.length : Int)
 .call (q29_l2 N t0 t1 v1 0) fun y2 => (
 .alt y2 (fun y3 => (
 .ret y3)) (fun y4 => (
 .ret (-1))))
noncomputable def q29 (N : Nat) (t0 : (List ByteArray)) (t1 : ByteArray) : Option Int := (q29_T N t0 t1).run some
/-! ### slices.Contains[[]string,string] -/
noncomputable def q30_T (N : Nat) (t0 : (List ByteArray)) (t1 : ByteArray) : Tree Bool :=
 .call (q29 N t0 t1) fun y1 => (
 let v2 : Bool := (leI 0 y1)
 .ret v2)
noncomputable def q30 (N : Nat) (t0 : (List ByteArray)) (t1 : ByteArray) : Option Bool := (q30_T N t0 t1).run some
/-! ### (*bauta/parse.tokens).goes -/
noncomputable def q31_j3_T (N : Nat) (t21 : Bool) (r0 : Int) : Tree (Int ⊕ Unit) :=
 .br t21 (
 let v1 : Int := (IntKind.i64.wrap (r0 + 1))
 .ret (.inl v1)) (
 .ret (.inr ()))
noncomputable def q31_j3 (N : Nat) (t21 : Bool) (r0 : Int) : Option (Int ⊕ Unit) := (q31_j3_T N t21 r0).run some
noncomputable def q31_T (N : Nat) (t1 : (List ByteArray)) (r0 : Int) (r1 : (List (Int × (ByteArray × Int)))) : Tree (Bool × Int) :=
 .call (q27 N r0 r1) fun y1 => (
 let v2 : Bool := (y1.1 == 4)
 .br v2 (
 .call (q30 N t1 y1.2.1) fun y3 => (
 .call (q31_j3 N y3 r0) fun y4 => (
 .alt y4 (fun y5 => (
 .ret (true, y5))) (fun y6 => (
 .ret (false, r0)))))) (
 let v7 : Bool := (y1.1 == 3)
 .br v7 (
 .call (q30 N t1 y1.2.1) fun y8 => (
 .call (q31_j3 N y8 r0) fun y9 => (
 .alt y9 (fun y10 => (
 .ret (true, y10))) (fun y11 => (
 .ret (false, r0)))))) (
 .call (q31_j3 N false r0) fun y12 => (
 .alt y12 (fun y13 => (
 .ret (true, y13))) (fun y14 => (
 .ret (false, r0)))))))
noncomputable def q31 (N : Nat) (t1 : (List ByteArray)) (r0 : Int) (r1 : (List (Int × (ByteArray × Int)))) : Option (Bool × Int) := (q31_T N t1 r0 r1).run some
/-! ### (*bauta/parse.tokens).fail -/
noncomputable def q32_T (N : Nat) (r0 : Int) (r1 : (List (Int × (ByteArray × Int)))) : Tree Int :=
 .call (q27 N r0 r1) fun y1 => (
 .ret y1.2.2)
noncomputable def q32 (N : Nat) (r0 : Int) (r1 : (List (Int × (ByteArray × Int)))) : Option Int := (q32_T N r0 r1).run some
/-! ### (*bauta/parse.tokens).name -/
noncomputable def q33_j4_T (N : Nat) (r0 : Int) : Tree Int :=
 let v1 : Int := (IntKind.i64.wrap (r0 + 1))
 .ret v1
noncomputable def q33_j4 (N : Nat) (r0 : Int) : Option Int := (q33_j4_T N r0).run some
noncomputable def q33_T (N : Nat) (r0 : Int) (r1 : (List (Int × (ByteArray × Int)))) : Tree (Int ⊕ (ByteArray × Int)) :=
 .call (q27 N r0 r1) fun y1 => (
 let v2 : Bool := (y1.1 != 1)
 .br v2 (
 .call (q32 N r0 r1) fun y3 => (
 .ret (.inl y3))) (
 .call (q33_j4 N r0) fun y4 => (
 .ret (.inr (y1.2.1, y4)))))
noncomputable def q33 (N : Nat) (r0 : Int) (r1 : (List (Int × (ByteArray × Int)))) : Option (Int ⊕ (ByteArray × Int)) := (q33_T N r0 r1).run some
/-! ### (*bauta/parse.tokens).names -/
noncomputable def q34_l2_T (N : Nat) (r2 : (List (Int × (ByteArray × Int)))) (r0 : Int) (r1 : (List ByteArray)) : Tree ((Int × (List ByteArray)) ⊕ ((Int × Int) ⊕ (Int × (List ByteArray)))) :=
 .call (q31 N [(⟨#[44]⟩ : ByteArray)] r0 r2) fun y1 => (
 .br y1.1 (
 .call (q33 N y1.2 r2) fun y2 => (
 .alt y2 (fun y3 => (
 .ret (.inr (.inl (y3, y1.2))))) (fun y4 => (
 .br (ltI (((r1.length : Int) + 1) * 16) 140737488355328) (
 let v5 : (List ByteArray) := (r1 ++ [y4.1])
 .ret (.inl (y4.2, v5))) .fail)))) (
 .ret (.inr (.inr (y1.2, r1)))))
noncomputable def q34_l2 (N : Nat) (r2 : (List (Int × (ByteArray × Int)))) (v : (Int × (List ByteArray))) : Option ((Int × Int) ⊕ (Int × (List ByteArray))) := loopN (fun v => q34_l2_T N r2 v.1 v.2) N v
noncomputable def q34_T (N : Nat) (r0 : Int) (r1 : (List (Int × (ByteArray × Int)))) : Tree ((Int × Int) ⊕ ((List ByteArray) × Int)) :=
 .call (q33 N r0 r1) fun y1 => (
 .alt y1 (fun y2 => (
 .ret (.inl (y2, r0)))) (fun y3 => (
 .call (q34_l2 N r1 (y3.2, [y3.1])) fun y4 => (
 .alt y4 (fun y5 => (
 .ret (.inl (y5.1, y5.2)))) (fun y6 => (
 .ret (.inr (y6.2, y6.1))))))))
noncomputable def q34 (N : Nat) (r0 : Int) (r1 : (List (Int × (ByteArray × Int)))) : Option ((Int × Int) ⊕ ((List ByteArray) × Int)) := (q34_T N r0 r1).run some
/-! ### (*bauta/parse.tokens).must -/
noncomputable def q35_T (N : Nat) (t1 : ByteArray) (r0 : Int) (r1 : (List (Int × (ByteArray × Int)))) : Tree ((Int × Int) ⊕ Int) :=
 .call (q31 N [t1] r0 r1) fun y1 => (
 let v2 : Bool := (!y1.1)
 .br v2 (
 .call (q32 N y1.2 r1) fun y3 => (
 .ret (.inl (y3, y1.2)))) (
 .ret (.inr y1.2)))
noncomputable def q35 (N : Nat) (t1 : ByteArray) (r0 : Int) (r1 : (List (Int × (ByteArray × Int)))) : Option ((Int × Int) ⊕ Int) := (q35_T N t1 r0 r1).run some
/-! ### (*bauta/parse.parser).deep -/
noncomputable def q36_T (N : Nat) (t1 : Int) (r0 : Int) (r1 : (List (Int × (ByteArray × Int)))) : Tree (Int ⊕ Unit) :=
 let v1 : Bool := (ltI 60 t1)
 .br v1 (
 .call (q32 N r0 r1) fun y2 => (
 .ret (.inl y2))) (
 .ret (.inr ()))
noncomputable def q36 (N : Nat) (t1 : Int) (r0 : Int) (r1 : (List (Int × (ByteArray × Int)))) : Option (Int ⊕ Unit) := (q36_T N t1 r0 r1).run some
/-! ### bauta/parse.node -/
noncomputable def q37_T (N : Nat) : Tree Unit :=
 .ret ()
noncomputable def q37 (N : Nat) : Option Unit := (q37_T N).run some
/-! ### (*bauta/parse.parser).primary -/
noncomputable def q38_l19_T (N : Nat) (q3_r : Int → Int → (List (Int × (ByteArray × Int))) → Option ((Int × Int × Int) ⊕ (Int × ByteArray × Int × Int × (List Node) × (List ByteArray) × Int))) (t1 : Int) (r3 : (List (Int × (ByteArray × Int)))) (r0 : Int) (r6 : (List Node)) : Tree ((Int × (List Node)) ⊕ ((Int × Int × Int) ⊕ (Int × (List Node)))) :=
 .call (q31 N [(⟨#[44]⟩ : ByteArray)] r0 r3) fun y1 => (
 .br y1.1 (
 let v2 : Int := (IntKind.i64.wrap (t1 + 1))
 .call (q3_r v2 y1.2 r3) fun y3 => (
 .alt y3 (fun y4 => (
 .ret (.inr (.inl (y4.1, y4.2.1, y4.2.2))))) (fun y5 => (
 .br (ltI (((r6.length : Int) + 1) * 88) 140737488355328) (
 let v6 : (List Node) := (r6 ++ [(Node.mk y5.1 y5.2.1 y5.2.2.1 y5.2.2.2.1 y5.2.2.2.2.1 y5.2.2.2.2.2.1)])
 .ret (.inl (y5.2.2.2.2.2.2, v6))) .fail)))) (
 .ret (.inr (.inr (y1.2, r6)))))
noncomputable def q38_l19 (N : Nat) (q3_r : Int → Int → (List (Int × (ByteArray × Int))) → Option ((Int × Int × Int) ⊕ (Int × ByteArray × Int × Int × (List Node) × (List ByteArray) × Int))) (t1 : Int) (r3 : (List (Int × (ByteArray × Int)))) (v : (Int × (List Node))) : Option ((Int × Int × Int) ⊕ (Int × (List Node))) := loopN (fun v => q38_l19_T N q3_r t1 r3 v.1 v.2) N v
noncomputable def q38_T (N : Nat) (q3_r : Int → Int → (List (Int × (ByteArray × Int))) → Option ((Int × Int × Int) ⊕ (Int × ByteArray × Int × Int × (List Node) × (List ByteArray) × Int))) (t1 : Int) (r0 : Int) (r1 : (List (Int × (ByteArray × Int)))) : Tree ((Int × Int × Int) ⊕ (Int × ByteArray × Int × Int × (List Node) × (List ByteArray) × Int)) :=
 .call (q27 N r0 r1) fun y1 => (
 let v2 : Bool := (y1.1 == 2)
 .br v2 (
 .fail) (
 .call (q31 N [(⟨#[40]⟩ : ByteArray)] r0 r1) fun y3 => (
 .br y3.1 (
 let v4 : Int := (IntKind.i64.wrap (t1 + 1))
 .call (q3_r v4 y3.2 r1) fun y5 => (
 .alt y5 (fun y6 => (
 .ret (.inl (y6.1, y6.2.1, y6.2.2)))) (fun y7 => (
 .call (q35 N (⟨#[41]⟩ : ByteArray) y7.2.2.2.2.2.2 r1) fun y8 => (
 .alt y8 (fun y9 => (
 .ret (.inl (y9.1, 100, y9.2)))) (fun y10 => (
 .ret (.inr (y7.1, y7.2.1, y7.2.2.1, y1.2.2, y7.2.2.2.2.1, y7.2.2.2.2.2.1, y10))))))))) (
 .call (q33 N y3.2 r1) fun y11 => (
 .alt y11 (fun y12 => (
 .ret (.inl (y12, 100, y3.2)))) (fun y13 => (
 .call (q28 N) fun y14 => (
 .call (q31 N [(⟨#[40]⟩ : ByteArray)] y13.2 r1) fun y15 => (
 .br y15.1 (
 let v16 : Int := (IntKind.i64.wrap (t1 + 1))
 .call (q3_r v16 y15.2 r1) fun y17 => (
 .alt y17 (fun y18 => (
 .ret (.inl (y18.1, y18.2.1, y18.2.2)))) (fun y19 => (
 let v20 : (List Node) := [(Node.mk y19.1 y19.2.1 y19.2.2.1 y19.2.2.2.1 y19.2.2.2.2.1 y19.2.2.2.2.2.1)]
 .call (q38_l19 N q3_r t1 r1 (y19.2.2.2.2.2.2, v20)) fun y21 => (
 .alt y21 (fun y22 => (
 .ret (.inl (y22.1, y22.2.1, y22.2.2)))) (fun y23 => (
 .call (q35 N (⟨#[41]⟩ : ByteArray) y23.1 r1) fun y24 => (
 .alt y24 (fun y25 => (
 .ret (.inl (y25.1, 100, y25.2)))) (fun y26 => (
 .ret (.inr (5, y13.1, 0, y1.2.2, y23.2, [], y26)))))))))))) (
 .ret (.inr (1, y13.1, 0, y1.2.2, [], [], y15.2))))))))))))
noncomputable def q38 (N : Nat) (q3_r : Int → Int → (List (Int × (ByteArray × Int))) → Option ((Int × Int × Int) ⊕ (Int × ByteArray × Int × Int × (List Node) × (List ByteArray) × Int))) (t1 : Int) (r0 : Int) (r1 : (List (Int × (ByteArray × Int)))) : Option ((Int × Int × Int) ⊕ (Int × ByteArray × Int × Int × (List Node) × (List ByteArray) × Int)) := (q38_T N q3_r t1 r0 r1).run some
/-! ### (*bauta/parse.parser).unary -/
noncomputable def q1_T (N : Nat) (q3_r : Int → Int → (List (Int × (ByteArray × Int))) → Option ((Int × Int × Int) ⊕ (Int × ByteArray × Int × Int × (List Node) × (List ByteArray) × Int))) (q1_r : Int → Int → (List (Int × (ByteArray × Int))) → Option ((Int × Int × Int) ⊕ (Int × ByteArray × Int × Int × (List Node) × (List ByteArray) × Int))) (t1 : Int) (r0 : Int) (r1 : (List (Int × (ByteArray × Int)))) : Tree ((Int × Int × Int) ⊕ (Int × ByteArray × Int × Int × (List Node) × (List ByteArray) × Int)) :=
 .call (q36 N t1 r0 r1) fun y1 => (
 .alt y1 (fun y2 => (
 .ret (.inl (y2, 150, r0)))) (fun y3 => (
 .call (q27 N r0 r1) fun y4 => (
 .call (q31 N [(⟨#[126]⟩ : ByteArray), (⟨#[45]⟩ : ByteArray)] r0 r1) fun y5 => (
 .br y5.1 (
 let v6 : Int := (IntKind.i64.wrap (t1 + 1))
 .call (q1_r v6 y5.2 r1) fun y7 => (
 .alt y7 (fun y8 => (
 .ret (.inl (y8.1, y8.2.1, y8.2.2)))) (fun y9 => (
 .call (q37 N) fun y10 => (
 .ret (.inr (2, y4.2.1, 0, y4.2.2, [(Node.mk y9.1 y9.2.1 y9.2.2.1 y9.2.2.2.1 y9.2.2.2.2.1 y9.2.2.2.2.2.1)], [], y9.2.2.2.2.2.2))))))) (
 .call (q38 N q3_r t1 y5.2 r1) fun y11 => (
 .alt y11 (fun y12 => (
 .ret (.inl (y12.1, y12.2.1, y12.2.2)))) (fun y13 => (
 .ret (.inr (y13.1, y13.2.1, y13.2.2.1, y13.2.2.2.1, y13.2.2.2.2.1, y13.2.2.2.2.2.1, y13.2.2.2.2.2.2)))))))))))
noncomputable def q1_R (N : Nat) (q3_r : Int → Int → (List (Int × (ByteArray × Int))) → Option ((Int × Int × Int) ⊕ (Int × ByteArray × Int × Int × (List Node) × (List ByteArray) × Int))) : Nat → Int → Int → (List (Int × (ByteArray × Int))) → Option ((Int × Int × Int) ⊕ (Int × ByteArray × Int × Int × (List Node) × (List ByteArray) × Int))
 | 0 => fun _ _ _ => none
 | k + 1 => fun t1 r0 r1 => (q1_T N q3_r (q1_R N q3_r k) t1 r0 r1).run some
noncomputable def q1 (N : Nat) (q3_r : Int → Int → (List (Int × (ByteArray × Int))) → Option ((Int × Int × Int) ⊕ (Int × ByteArray × Int × Int × (List Node) × (List ByteArray) × Int))) : Int → Int → (List (Int × (ByteArray × Int))) → Option ((Int × Int × Int) ⊕ (Int × ByteArray × Int × Int × (List Node) × (List ByteArray) × Int)) := q1_R N q3_r N
/-! ### bauta/parse.node -/
noncomputable def q39_T (N : Nat) : Tree Unit :=
 .ret ()
noncomputable def q39 (N : Nat) : Option Unit := (q39_T N).run some
/-! ### (*bauta/parse.parser).level -/
noncomputable def q2_j10_T (N : Nat) (q3_r : Int → Int → (List (Int × (ByteArray × Int))) → Option ((Int × Int × Int) ⊕ (Int × ByteArray × Int × Int × (List Node) × (List ByteArray) × Int))) (q2_r : Int → Int → Int → (List (Int × (ByteArray × Int))) → Option ((Int × Int × Int) ⊕ (Int × ByteArray × Int × Int × (List Node) × (List ByteArray) × Int))) (t1 : Int) (t2 : Int) (r0 : Int) (r2a : Int) (r2b : ByteArray) (r2c : Int) (r2d : Int) (r2e : (List Node)) (r2f : (List ByteArray)) (r3 : (List (Int × (ByteArray × Int)))) : Tree ((Int × Int × Int) ⊕ (Int × (List Node))) :=
 let v1 : Int := (IntKind.i64.wrap (t1 + 1))
 .call (q2_r v1 t2 r0 r3) fun y2 => (
 .alt y2 (fun y3 => (
 .ret (.inl (y3.1, y3.2.1, y3.2.2)))) (fun y4 => (
 .call (q39 N) fun y5 => (
 .ret (.inr (y4.2.2.2.2.2.2, [(Node.mk r2a r2b r2c r2d r2e r2f), (Node.mk y4.1 y4.2.1 y4.2.2.1 y4.2.2.2.1 y4.2.2.2.2.1 y4.2.2.2.2.2.1)]))))))
noncomputable def q2_j10 (N : Nat) (q3_r : Int → Int → (List (Int × (ByteArray × Int))) → Option ((Int × Int × Int) ⊕ (Int × ByteArray × Int × Int × (List Node) × (List ByteArray) × Int))) (q2_r : Int → Int → Int → (List (Int × (ByteArray × Int))) → Option ((Int × Int × Int) ⊕ (Int × ByteArray × Int × Int × (List Node) × (List ByteArray) × Int))) (t1 : Int) (t2 : Int) (r0 : Int) (r2a : Int) (r2b : ByteArray) (r2c : Int) (r2d : Int) (r2e : (List Node)) (r2f : (List ByteArray)) (r3 : (List (Int × (ByteArray × Int)))) : Option ((Int × Int × Int) ⊕ (Int × (List Node))) := (q2_j10_T N q3_r q2_r t1 t2 r0 r2a r2b r2c r2d r2e r2f r3).run some
noncomputable def q2_j7_T (N : Nat) (q3_r : Int → Int → (List (Int × (ByteArray × Int))) → Option ((Int × Int × Int) ⊕ (Int × ByteArray × Int × Int × (List Node) × (List ByteArray) × Int))) (q2_r : Int → Int → Int → (List (Int × (ByteArray × Int))) → Option ((Int × Int × Int) ⊕ (Int × ByteArray × Int × Int × (List Node) × (List ByteArray) × Int))) (t1 : Int) (t2 : Int) (r0 : Int) (r2a : Int) (r2b : ByteArray) (r2c : Int) (r2d : Int) (r2e : (List Node)) (r2f : (List ByteArray)) (r3 : (List (Int × (ByteArray × Int)))) : Tree ((Int × Int × Int) ⊕ (Int × Int × (List Node))) :=
 let v1 : Bool := (t1 == 3)
 .br v1 (
 .call (q2_j10 N q3_r q2_r t1 t2 r0 r2a r2b r2c r2d r2e r2f r3) fun y2 => (
 .alt y2 (fun y3 => (
 .ret (.inl (y3.1, y3.2.1, y3.2.2)))) (fun y4 => (
 .ret (.inr (y4.1, 4, y4.2)))))) (
 .call (q2_j10 N q3_r q2_r t1 t2 r0 r2a r2b r2c r2d r2e r2f r3) fun y5 => (
 .alt y5 (fun y6 => (
 .ret (.inl (y6.1, y6.2.1, y6.2.2)))) (fun y7 => (
 .ret (.inr (y7.1, 3, y7.2))))))
noncomputable def q2_j7 (N : Nat) (q3_r : Int → Int → (List (Int × (ByteArray × Int))) → Option ((Int × Int × Int) ⊕ (Int × ByteArray × Int × Int × (List Node) × (List ByteArray) × Int))) (q2_r : Int → Int → Int → (List (Int × (ByteArray × Int))) → Option ((Int × Int × Int) ⊕ (Int × ByteArray × Int × Int × (List Node) × (List ByteArray) × Int))) (t1 : Int) (t2 : Int) (r0 : Int) (r2a : Int) (r2b : ByteArray) (r2c : Int) (r2d : Int) (r2e : (List Node)) (r2f : (List ByteArray)) (r3 : (List (Int × (ByteArray × Int)))) : Option ((Int × Int × Int) ⊕ (Int × Int × (List Node))) := (q2_j7_T N q3_r q2_r t1 t2 r0 r2a r2b r2c r2d r2e r2f r3).run some
noncomputable def q2_l4_T (N : Nat) (q3_r : Int → Int → (List (Int × (ByteArray × Int))) → Option ((Int × Int × Int) ⊕ (Int × ByteArray × Int × Int × (List Node) × (List ByteArray) × Int))) (q2_r : Int → Int → Int → (List (Int × (ByteArray × Int))) → Option ((Int × Int × Int) ⊕ (Int × ByteArray × Int × Int × (List Node) × (List ByteArray) × Int))) (t1 : Int) (t2 : Int) (r2d : Int) (r3 : (List (Int × (ByteArray × Int)))) (r0 : Int) (r2a : Int) (r2b : ByteArray) (r2c : Int) (r2e : (List Node)) (r2f : (List ByteArray)) : Tree ((Int × Int × ByteArray × Int × (List Node) × (List ByteArray)) ⊕ ((Int × Int × ByteArray × Int × (List Node) × (List ByteArray)) ⊕ (Int × Int × Int))) :=
 .call (q27 N r0 r3) fun y1 => (
 let v2 : Bool := (y1.2.1.toList == ByteArray.empty.toList)
 .br v2 (
 .ret (.inr (.inl (r0, r2a, r2b, r2c, r2e, r2f)))) (
 .br (inRange t1 5) (
 .call (q31 N [(gstr 0 (t1.toNat * 3 + 0)), (gstr 0 (t1.toNat * 3 + 1)), (gstr 0 (t1.toNat * 3 + 2))] r0 r3) fun y3 => (
 let v4 : Bool := (!y3.1)
 .br v4 (
 .ret (.inr (.inl (y3.2, r2a, r2b, r2c, r2e, r2f)))) (
 .call (q2_j7 N q3_r q2_r t1 t2 y3.2 r2a r2b r2c r2d r2e r2f r3) fun y5 => (
 .alt y5 (fun y6 => (
 .ret (.inr (.inr (y6.1, y6.2.1, y6.2.2))))) (fun y7 => (
 .ret (.inl (y7.1, y7.2.1, y1.2.1, 0, y7.2.2, [])))))))) .fail))
noncomputable def q2_l4 (N : Nat) (q3_r : Int → Int → (List (Int × (ByteArray × Int))) → Option ((Int × Int × Int) ⊕ (Int × ByteArray × Int × Int × (List Node) × (List ByteArray) × Int))) (q2_r : Int → Int → Int → (List (Int × (ByteArray × Int))) → Option ((Int × Int × Int) ⊕ (Int × ByteArray × Int × Int × (List Node) × (List ByteArray) × Int))) (t1 : Int) (t2 : Int) (r2d : Int) (r3 : (List (Int × (ByteArray × Int)))) (v : (Int × Int × ByteArray × Int × (List Node) × (List ByteArray))) : Option ((Int × Int × ByteArray × Int × (List Node) × (List ByteArray)) ⊕ (Int × Int × Int)) := loopN (fun v => q2_l4_T N q3_r q2_r t1 t2 r2d r3 v.1 v.2.1 v.2.2.1 v.2.2.2.1 v.2.2.2.2.1 v.2.2.2.2.2) N v
noncomputable def q2_T (N : Nat) (q3_r : Int → Int → (List (Int × (ByteArray × Int))) → Option ((Int × Int × Int) ⊕ (Int × ByteArray × Int × Int × (List Node) × (List ByteArray) × Int))) (q2_r : Int → Int → Int → (List (Int × (ByteArray × Int))) → Option ((Int × Int × Int) ⊕ (Int × ByteArray × Int × Int × (List Node) × (List ByteArray) × Int))) (t1 : Int) (t2 : Int) (r0 : Int) (r1 : (List (Int × (ByteArray × Int)))) : Tree ((Int × Int × Int) ⊕ (Int × ByteArray × Int × Int × (List Node) × (List ByteArray) × Int)) :=
 let v1 : Bool := (t1 == 5)
 .br v1 (
 .call (q1 N q3_r t2 r0 r1) fun y2 => (
 .alt y2 (fun y3 => (
 .ret (.inl (y3.1, y3.2.1, y3.2.2)))) (fun y4 => (
 .ret (.inr (y4.1, y4.2.1, y4.2.2.1, y4.2.2.2.1, y4.2.2.2.2.1, y4.2.2.2.2.2.1, y4.2.2.2.2.2.2)))))) (
 let v5 : Int := (IntKind.i64.wrap (t1 + 1))
 .call (q2_r v5 t2 r0 r1) fun y6 => (
 .alt y6 (fun y7 => (
 .ret (.inl (y7.1, y7.2.1, y7.2.2)))) (fun y8 => (
 .call (q2_l4 N q3_r q2_r t1 t2 y8.2.2.2.1 r1 (y8.2.2.2.2.2.2, y8.1, y8.2.1, y8.2.2.1, y8.2.2.2.2.1, y8.2.2.2.2.2.1)) fun y9 => (
 .alt y9 (fun y10 => (
 .ret (.inr (y10.2.1, y10.2.2.1, y10.2.2.2.1, y8.2.2.2.1, y10.2.2.2.2.1, y10.2.2.2.2.2, y10.1)))) (fun y11 => (
 .ret (.inl (y11.1, y11.2.1, y11.2.2)))))))))
noncomputable def q2_R (N : Nat) (q3_r : Int → Int → (List (Int × (ByteArray × Int))) → Option ((Int × Int × Int) ⊕ (Int × ByteArray × Int × Int × (List Node) × (List ByteArray) × Int))) : Nat → Int → Int → Int → (List (Int × (ByteArray × Int))) → Option ((Int × Int × Int) ⊕ (Int × ByteArray × Int × Int × (List Node) × (List ByteArray) × Int))
 | 0 => fun _ _ _ _ => none
 | k + 1 => fun t1 t2 r0 r1 => (q2_T N q3_r (q2_R N q3_r k) t1 t2 r0 r1).run some
noncomputable def q2 (N : Nat) (q3_r : Int → Int → (List (Int × (ByteArray × Int))) → Option ((Int × Int × Int) ⊕ (Int × ByteArray × Int × Int × (List Node) × (List ByteArray) × Int))) : Int → Int → Int → (List (Int × (ByteArray × Int))) → Option ((Int × Int × Int) ⊕ (Int × ByteArray × Int × Int × (List Node) × (List ByteArray) × Int)) := q2_R N q3_r N
/-! ### (*bauta/parse.parser).expr -/
noncomputable def q3_T (N : Nat) (q3_r : Int → Int → (List (Int × (ByteArray × Int))) → Option ((Int × Int × Int) ⊕ (Int × ByteArray × Int × Int × (List Node) × (List ByteArray) × Int))) (t1 : Int) (r0 : Int) (r1 : (List (Int × (ByteArray × Int)))) : Tree ((Int × Int × Int) ⊕ (Int × ByteArray × Int × Int × (List Node) × (List ByteArray) × Int)) :=
 .call (q36 N t1 r0 r1) fun y1 => (
 .alt y1 (fun y2 => (
 .ret (.inl (y2, 150, r0)))) (fun y3 => (
 .call (q2 N q3_r 0 t1 r0 r1) fun y4 => (
 .alt y4 (fun y5 => (
 .ret (.inl (y5.1, y5.2.1, y5.2.2)))) (fun y6 => (
 .ret (.inr (y6.1, y6.2.1, y6.2.2.1, y6.2.2.2.1, y6.2.2.2.2.1, y6.2.2.2.2.2.1, y6.2.2.2.2.2.2))))))))
noncomputable def q3_R (N : Nat) : Nat → Int → Int → (List (Int × (ByteArray × Int))) → Option ((Int × Int × Int) ⊕ (Int × ByteArray × Int × Int × (List Node) × (List ByteArray) × Int))
 | 0 => fun _ _ _ => none
 | k + 1 => fun t1 r0 r1 => (q3_T N (q3_R N k) t1 r0 r1).run some
noncomputable def q3 (N : Nat) : Int → Int → (List (Int × (ByteArray × Int))) → Option ((Int × Int × Int) ⊕ (Int × ByteArray × Int × Int × (List Node) × (List ByteArray) × Int)) := q3_R N N
/-! ### (*bauta/parse.parser).output -/
noncomputable def q40_T (N : Nat) (r0 : Int) (r1 : (List (Int × (ByteArray × Int)))) : Tree ((Int × Int × Int) ⊕ (ByteArray × (List Node) × Int)) :=
 .call (q33 N r0 r1) fun y1 => (
 .alt y1 (fun y2 => (
 .ret (.inl (y2, 100, r0)))) (fun y3 => (
 .call (q35 N (⟨#[61]⟩ : ByteArray) y3.2 r1) fun y4 => (
 .alt y4 (fun y5 => (
 .ret (.inl (y5.1, 100, y5.2)))) (fun y6 => (
 .call (q3 N 0 y6 r1) fun y7 => (
 .alt y7 (fun y8 => (
 .ret (.inl (y8.1, y8.2.1, y8.2.2)))) (fun y9 => (
 .call (q35 N (⟨#[59]⟩ : ByteArray) y9.2.2.2.2.2.2 r1) fun y10 => (
 .alt y10 (fun y11 => (
 .ret (.inl (y11.1, 100, y11.2)))) (fun y12 => (
 .call (q37 N) fun y13 => (
 .ret (.inr (y3.1, [(Node.mk y9.1 y9.2.1 y9.2.2.1 y9.2.2.2.1 y9.2.2.2.2.1 y9.2.2.2.2.2.1)], y12)))))))))))))))
noncomputable def q40 (N : Nat) (r0 : Int) (r1 : (List (Int × (ByteArray × Int)))) : Option ((Int × Int × Int) ⊕ (ByteArray × (List Node) × Int)) := (q40_T N r0 r1).run some
/-! ### (*bauta/parse.parser).stmt -/
noncomputable def q41_j7_T (N : Nat) (r0 : Int) (r3 : (List (Int × (ByteArray × Int)))) : Tree ((Int × Int) ⊕ (Int × (List ByteArray))) :=
 .call (q34 N r0 r3) fun y1 => (
 .alt y1 (fun y2 => (
 .ret (.inl (y2.1, y2.2)))) (fun y3 => (
 .call (q35 N (⟨#[59]⟩ : ByteArray) y3.2 r3) fun y4 => (
 .alt y4 (fun y5 => (
 .ret (.inl (y5.1, y5.2)))) (fun y6 => (
 .ret (.inr (y6, y3.1))))))))
noncomputable def q41_j7 (N : Nat) (r0 : Int) (r3 : (List (Int × (ByteArray × Int)))) : Option ((Int × Int) ⊕ (Int × (List ByteArray))) := (q41_j7_T N r0 r3).run some
noncomputable def q41_j4_T (N : Nat) (t11 : Bool) (r0 : Int) (r2 : (List (Int × (ByteArray × Int)))) : Tree ((Int × Int × Int) ⊕ (Int × Int × ByteArray × (List ByteArray) × (List Node)) ⊕ (Int × Int × ByteArray × (List Node)) ⊕ Int) :=
 .br t11 (
 .call (q28 N) fun y1 => (
 let v2 : Int := (IntKind.i64.wrap (r0 - 1))
 .br (inRange v2 r2.length) (
 let v3 : (Int × (ByteArray × Int)) := (r2.getD v2.toNat (0, (ByteArray.empty, 0)))
 let v4 : Bool := (v3.2.1.toList == (⟨#[112, 117, 98, 108, 105, 99]⟩ : ByteArray).toList)
 .br v4 (
 .call (q41_j7 N r0 r2) fun y5 => (
 .alt y5 (fun y6 => (
 .ret (.inl (y6.1, 100, y6.2)))) (fun y7 => (
 .ret (.inr (.inl (y7.1, 7, ByteArray.empty, y7.2, []))))))) (
 .call (q41_j7 N r0 r2) fun y8 => (
 .alt y8 (fun y9 => (
 .ret (.inl (y9.1, 100, y9.2)))) (fun y10 => (
 .ret (.inr (.inl (y10.1, 6, ByteArray.empty, y10.2, [])))))))) .fail)) (
 .call (q31 N [(⟨#[111, 117, 116]⟩ : ByteArray)] r0 r2) fun y11 => (
 .br y11.1 (
 .call (q40 N y11.2 r2) fun y12 => (
 .alt y12 (fun y13 => (
 .ret (.inl (y13.1, y13.2.1, y13.2.2)))) (fun y14 => (
 .ret (.inr (.inr (.inl (y14.2.2, 8, y14.1, y14.2.1)))))))) (
 .call (q31 N [(⟨#[115, 104, 111, 119]⟩ : ByteArray)] y11.2 r2) fun y15 => (
 .br y15.1 (
 .call (q40 N y15.2 r2) fun y16 => (
 .alt y16 (fun y17 => (
 .ret (.inl (y17.1, y17.2.1, y17.2.2)))) (fun y18 => (
 .ret (.inr (.inr (.inl (y18.2.2, 9, y18.1, y18.2.1)))))))) (
 .call (q31 N [(⟨#[102, 110]⟩ : ByteArray)] y15.2 r2) fun y19 => (
 .br y19.1 (
 .call (q33 N y19.2 r2) fun y20 => (
 .alt y20 (fun y21 => (
 .ret (.inl (y21, 100, y19.2)))) (fun y22 => (
 .call (q28 N) fun y23 => (
 .call (q35 N (⟨#[40]⟩ : ByteArray) y22.2 r2) fun y24 => (
 .alt y24 (fun y25 => (
 .ret (.inl (y25.1, 100, y25.2)))) (fun y26 => (
 .call (q34 N y26 r2) fun y27 => (
 .alt y27 (fun y28 => (
 .ret (.inl (y28.1, 100, y28.2)))) (fun y29 => (
 .call (q35 N (⟨#[41]⟩ : ByteArray) y29.2 r2) fun y30 => (
 .alt y30 (fun y31 => (
 .ret (.inl (y31.1, 100, y31.2)))) (fun y32 => (
 .call (q35 N (⟨#[61]⟩ : ByteArray) y32 r2) fun y33 => (
 .alt y33 (fun y34 => (
 .ret (.inl (y34.1, 100, y34.2)))) (fun y35 => (
 .call (q3 N 0 y35 r2) fun y36 => (
 .alt y36 (fun y37 => (
 .ret (.inl (y37.1, y37.2.1, y37.2.2)))) (fun y38 => (
 let v39 : (List Node) := [(Node.mk y38.1 y38.2.1 y38.2.2.1 y38.2.2.2.1 y38.2.2.2.2.1 y38.2.2.2.2.2.1)]
 .call (q35 N (⟨#[59]⟩ : ByteArray) y38.2.2.2.2.2.2 r2) fun y40 => (
 .alt y40 (fun y41 => (
 .ret (.inl (y41.1, 100, y41.2)))) (fun y42 => (
 .ret (.inr (.inl (y42, 12, y22.1, y29.1, v39)))))))))))))))))))))))))) (
 .ret (.inr (.inr (.inr y19.2))))))))))
noncomputable def q41_j4 (N : Nat) (t11 : Bool) (r0 : Int) (r2 : (List (Int × (ByteArray × Int)))) : Option ((Int × Int × Int) ⊕ (Int × Int × ByteArray × (List ByteArray) × (List Node)) ⊕ (Int × Int × ByteArray × (List Node)) ⊕ Int) := (q41_j4_T N t11 r0 r2).run some
noncomputable def q41_T (N : Nat) (r0 : Int) (r1 : (List (Int × (ByteArray × Int)))) : Tree ((Int × Int × Int) ⊕ (Int × ByteArray × Int × (List Node) × (List ByteArray) × Int)) :=
 .call (q27 N r0 r1) fun y1 => (
 .call (q31 N [(⟨#[115, 101, 99, 114, 101, 116]⟩ : ByteArray)] r0 r1) fun y2 => (
 .br y2.1 (
 .call (q41_j4 N y2.1 y2.2 r1) fun y3 => (
 .alt y3 (fun y4 => (
 .ret (.inl (y4.1, y4.2.1, y4.2.2)))) (fun y5 => (
 .alt y5 (fun y6 => (
 .ret (.inr (y6.2.1, y6.2.2.1, y1.2.2, y6.2.2.2.2, y6.2.2.2.1, y6.1)))) (fun y7 => (
 .alt y7 (fun y8 => (
 .ret (.inr (y8.2.1, y8.2.2.1, y1.2.2, y8.2.2.2, [], y8.1)))) (fun y9 => (
 .fail)))))))) (
 .call (q31 N [(⟨#[112, 117, 98, 108, 105, 99]⟩ : ByteArray)] y2.2 r1) fun y10 => (
 .call (q41_j4 N y10.1 y10.2 r1) fun y11 => (
 .alt y11 (fun y12 => (
 .ret (.inl (y12.1, y12.2.1, y12.2.2)))) (fun y13 => (
 .alt y13 (fun y14 => (
 .ret (.inr (y14.2.1, y14.2.2.1, y1.2.2, y14.2.2.2.2, y14.2.2.2.1, y14.1)))) (fun y15 => (
 .alt y15 (fun y16 => (
 .ret (.inr (y16.2.1, y16.2.2.1, y1.2.2, y16.2.2.2, [], y16.1)))) (fun y17 => (
 .fail)))))))))))
noncomputable def q41 (N : Nat) (r0 : Int) (r1 : (List (Int × (ByteArray × Int)))) : Option ((Int × Int × Int) ⊕ (Int × ByteArray × Int × (List Node) × (List ByteArray) × Int)) := (q41_T N r0 r1).run some
/-! ### (*bauta/parse.parser).program -/
noncomputable def q42_l2_T (N : Nat) (r3 : (List (Int × (ByteArray × Int)))) (r0 : Int) (r6 : (List Node)) : Tree ((Int × (List Node)) ⊕ ((Int × Int × Int) ⊕ (Int × (List Node)))) :=
 .call (q27 N r0 r3) fun y1 => (
 let v2 : Bool := (y1.1 != 0)
 .br v2 (
 .call (q41 N r0 r3) fun y3 => (
 .alt y3 (fun y4 => (
 .ret (.inr (.inl (y4.1, y4.2.1, y4.2.2))))) (fun y5 => (
 .br (ltI (((r6.length : Int) + 1) * 88) 140737488355328) (
 let v6 : (List Node) := (r6 ++ [(Node.mk y5.1 y5.2.1 0 y5.2.2.1 y5.2.2.2.1 y5.2.2.2.2.1)])
 .ret (.inl (y5.2.2.2.2.2, v6))) .fail)))) (
 .ret (.inr (.inr (r0, r6)))))
noncomputable def q42_l2 (N : Nat) (r3 : (List (Int × (ByteArray × Int)))) (v : (Int × (List Node))) : Option ((Int × Int × Int) ⊕ (Int × (List Node))) := loopN (fun v => q42_l2_T N r3 v.1 v.2) N v
noncomputable def q42_T (N : Nat) (r0 : Int) (r1 : (List (Int × (ByteArray × Int)))) : Tree ((Int × Int × Int) ⊕ (Int × (List Node) × Int)) :=
 .call (q27 N r0 r1) fun y1 => (
 .call (q28 N) fun y2 => (
 .call (q42_l2 N r1 (r0, [])) fun y3 => (
 .alt y3 (fun y4 => (
 .ret (.inl (y4.1, y4.2.1, y4.2.2)))) (fun y5 => (
 .ret (.inr (y1.2.2, y5.2, y5.1)))))))
noncomputable def q42 (N : Nat) (r0 : Int) (r1 : (List (Int × (ByteArray × Int)))) : Option ((Int × Int × Int) ⊕ (Int × (List Node) × Int)) := (q42_T N r0 r1).run some
/-! ### bauta/parse.Parse$1 -/
noncomputable def q43_T (N : Nat) (r0 : Int) (r1 : (List (Int × (ByteArray × Int)))) : Tree ((Int × Int × Int) ⊕ (Int × (List Node) × Int)) :=
 .call (q42 N r0 r1) fun y1 => (
 .alt y1 (fun y2 => (
 .ret (.inl (y2.1, y2.2.1, y2.2.2)))) (fun y3 => (
 .ret (.inr (y3.1, y3.2.1, y3.2.2)))))
noncomputable def q43 (N : Nat) (r0 : Int) (r1 : (List (Int × (ByteArray × Int)))) : Option ((Int × Int × Int) ⊕ (Int × (List Node) × Int)) := (q43_T N r0 r1).run some
/-! ### bauta/parse.read -/
noncomputable def q44_T (N : Nat) (t0 : ByteArray) : Tree ((Int × Int) ⊕ (Int × (List Node))) :=
 .call (q26 N t0) fun y1 => (
 let v2 : Bool := (y1.2.1 != 0)
 .br v2 (
 .ret (.inl (y1.1, y1.2.1))) (
 .call (q43 N 0 y1.2.2) fun y3 => (
 .alt y3 (fun y4 => (
 .ret (.inl (y4.1, y4.2.1)))) (fun y5 => (
 .call (q27 N y5.2.2 y1.2.2) fun y6 => (
 let v7 : Bool := (y6.1 != 0)
 .br v7 (
 .call (q32 N y5.2.2 y1.2.2) fun y8 => (
 .ret (.inl (y8, 100)))) (
 .ret (.inr (y5.1, y5.2.1)))))))))
noncomputable def q44 (N : Nat) (t0 : ByteArray) : Option ((Int × Int) ⊕ (Int × (List Node))) := (q44_T N t0).run some
/-! ### bauta/parse.Parse -/
noncomputable def q45_T (N : Nat) (t0 : ByteArray) : Tree ((Int × Int) ⊕ (Int × (List Node))) :=
 .call (q44 N t0) fun y1 => (
 .alt y1 (fun y2 => (
 .ret (.inl (y2.1, y2.2)))) (fun y3 => (
 .ret (.inr (y3.1, y3.2)))))
noncomputable def q45 (N : Nat) (t0 : ByteArray) : Option ((Int × Int) ⊕ (Int × (List Node))) := (q45_T N t0).run some
/-! ### (*bauta/names.checker).fun -/
noncomputable def q46_T (N : Nat) (t1 : ByteArray) (r2 : (List (ByteArray × Int))) : Tree Bool :=
 let v2 : Bool := (hasE (eqE .str) t1 r2)
 .ret v2
noncomputable def q46 (N : Nat) (t1 : ByteArray) (r2 : (List (ByteArray × Int))) : Option Bool := (q46_T N t1 r2).run some
/-! ### (*bauta/names.checker).taken -/
noncomputable def q47_T (N : Nat) (t1 : ByteArray) (r1 : (List (ByteArray × Int))) (r2 : (List (ByteArray × Int))) : Tree Bool :=
 let v1 : Int := (getE (eqE .str) t1 0 r1)
 let v2 : Bool := (v1 != 0)
 .br v2 (
 .ret true) (
 .call (q46 N t1 r2) fun y3 => (
 .ret y3))
noncomputable def q47 (N : Nat) (t1 : ByteArray) (r1 : (List (ByteArray × Int))) (r2 : (List (ByteArray × Int))) : Option Bool := (q47_T N t1 r1 r2).run some
/-! ### slices.IndexFunc[[]string,string] -/
noncomputable def q48_l2_T (N : Nat) (t0 : (List ByteArray)) (t7 : Int) (r1 : (List (ByteArray × Int))) (r2 : (List (ByteArray × Int))) (t8 : Int) : Tree (Int ⊕ (Int ⊕ Unit)) :=
 let v1 : Bool := (ltI t8 t7)
 .br v1 (
 .br (inRange t8 t0.length) (
 let v2 : ByteArray := (t0.getD t8.toNat ByteArray.empty)
 .call (q47 N v2 r1 r2) fun y3 => (
 .br y3 (
 .ret (.inr (.inl t8))) (
 let v4 : Int := (IntKind.i64.wrap (t8 + 1))
 .ret (.inl v4)))) .fail) (
 .ret (.inr (.inr ())))
noncomputable def q48_l2 (N : Nat) (t0 : (List ByteArray)) (t7 : Int) (r1 : (List (ByteArray × Int))) (r2 : (List (ByteArray × Int))) (v : Int) : Option (Int ⊕ Unit) := loopN (fun v => q48_l2_T N t0 t7 r1 r2 v) N v
noncomputable def q48_T (N : Nat) (t0 : (List ByteArray)) (r1 : (List (ByteArray × Int))) (r2 : (List (ByteArray × Int))) : Tree Int :=
 let v1 : Int := (t0.length : Int)
 .call (q48_l2 N t0 v1 r1 r2 0) fun y2 => (
 .alt y2 (fun y3 => (
 .ret y3)) (fun y4 => (
 .ret (-1))))
noncomputable def q48 (N : Nat) (t0 : (List ByteArray)) (r1 : (List (ByteArray × Int))) (r2 : (List (ByteArray × Int))) : Option Int := (q48_T N t0 r1 r2).run some
/-! ### slices.ContainsFunc[[]string,string] -/
noncomputable def q49_T (N : Nat) (t0 : (List ByteArray)) (r1 : (List (ByteArray × Int))) (r2 : (List (ByteArray × Int))) : Tree Bool :=
 .call (q48 N t0 r1 r2) fun y1 => (
 let v2 : Bool := (leI 0 y1)
 .ret v2)
noncomputable def q49 (N : Nat) (t0 : (List ByteArray)) (r1 : (List (ByteArray × Int))) (r2 : (List (ByteArray × Int))) : Option Bool := (q49_T N t0 r1 r2).run some
/-! ### slices.Clone[[]string,string] -/
noncomputable def q50_T (N : Nat) (t0 : (List ByteArray)) : Tree (List ByteArray) :=
 .br t0.isEmpty (
 .any (
 .ret []) (
 .br (ltI ((0 + (t0.length : Int)) * 16) 140737488355328) (
 .ret t0) .fail)) (
 .br (ltI ((0 + (t0.length : Int)) * 16) 140737488355328) (
 .ret t0) .fail)
noncomputable def q50 (N : Nat) (t0 : (List ByteArray)) : Option (List ByteArray) := (q50_T N t0).run some
/-! ### math/bits.Len64 -/
noncomputable def q51_j7_T (N : Nat) (t0 : Int) (t2 : Int) : Tree Int :=
 let v1 : Bool := (leI 256 t0)
 .br v1 (
 let v2 : Int := (t0.fdiv (2 ^ 8))
 let v3 : Int := (IntKind.i64.wrap (t2 + 8))
 let v4 : Int := (IntKind.u8.wrap v2)
 .br (inRange v4 256) (
 let v5 : Int := (bAt (⟨#[0, 1, 2, 2, 3, 3, 3, 3, 4, 4, 4, 4, 4, 4, 4, 4, 5, 5, 5, 5, 5, 5, 5, 5, 5, 5, 5, 5, 5, 5, 5, 5, 6, 6, 6, 6, 6, 6, 6, 6, 6, 6, 6, 6, 6, 6, 6, 6, 6, 6, 6, 6, 6, 6, 6, 6, 6, 6, 6, 6, 6, 6, 6, 6, 7, 7, 7, 7, 7, 7, 7, 7, 7, 7, 7, 7, 7, 7, 7, 7, 7, 7, 7, 7, 7, 7, 7, 7, 7, 7, 7, 7, 7, 7, 7, 7, 7, 7, 7, 7, 7, 7, 7, 7, 7, 7, 7, 7, 7, 7, 7, 7, 7, 7, 7, 7, 7, 7, 7, 7, 7, 7, 7, 7, 7, 7, 7, 7, 8, 8, 8, 8, 8, 8, 8, 8, 8, 8, 8, 8, 8, 8, 8, 8, 8, 8, 8, 8, 8, 8, 8, 8, 8, 8, 8, 8, 8, 8, 8, 8, 8, 8, 8, 8, 8, 8, 8, 8, 8, 8, 8, 8, 8, 8, 8, 8, 8, 8, 8, 8, 8, 8, 8, 8, 8, 8, 8, 8, 8, 8, 8, 8, 8, 8, 8, 8, 8, 8, 8, 8, 8, 8, 8, 8, 8, 8, 8, 8, 8, 8, 8, 8, 8, 8, 8, 8, 8, 8, 8, 8, 8, 8, 8, 8, 8, 8, 8, 8, 8, 8, 8, 8, 8, 8, 8, 8, 8, 8, 8, 8, 8, 8, 8, 8, 8, 8, 8, 8, 8, 8, 8, 8, 8, 8, 8, 8]⟩ : ByteArray) v4.toNat)
 let v6 : Int := (IntKind.i64.wrap v5)
 let v7 : Int := (IntKind.i64.wrap (v3 + v6))
 .ret v7) .fail) (
 let v8 : Int := (IntKind.u8.wrap t0)
 .br (inRange v8 256) (
 let v9 : Int := (bAt (⟨#[0, 1, 2, 2, 3, 3, 3, 3, 4, 4, 4, 4, 4, 4, 4, 4, 5, 5, 5, 5, 5, 5, 5, 5, 5, 5, 5, 5, 5, 5, 5, 5, 6, 6, 6, 6, 6, 6, 6, 6, 6, 6, 6, 6, 6, 6, 6, 6, 6, 6, 6, 6, 6, 6, 6, 6, 6, 6, 6, 6, 6, 6, 6, 6, 7, 7, 7, 7, 7, 7, 7, 7, 7, 7, 7, 7, 7, 7, 7, 7, 7, 7, 7, 7, 7, 7, 7, 7, 7, 7, 7, 7, 7, 7, 7, 7, 7, 7, 7, 7, 7, 7, 7, 7, 7, 7, 7, 7, 7, 7, 7, 7, 7, 7, 7, 7, 7, 7, 7, 7, 7, 7, 7, 7, 7, 7, 7, 7, 8, 8, 8, 8, 8, 8, 8, 8, 8, 8, 8, 8, 8, 8, 8, 8, 8, 8, 8, 8, 8, 8, 8, 8, 8, 8, 8, 8, 8, 8, 8, 8, 8, 8, 8, 8, 8, 8, 8, 8, 8, 8, 8, 8, 8, 8, 8, 8, 8, 8, 8, 8, 8, 8, 8, 8, 8, 8, 8, 8, 8, 8, 8, 8, 8, 8, 8, 8, 8, 8, 8, 8, 8, 8, 8, 8, 8, 8, 8, 8, 8, 8, 8, 8, 8, 8, 8, 8, 8, 8, 8, 8, 8, 8, 8, 8, 8, 8, 8, 8, 8, 8, 8, 8, 8, 8, 8, 8, 8, 8, 8, 8, 8, 8, 8, 8, 8, 8, 8, 8, 8, 8, 8, 8, 8, 8, 8, 8]⟩ : ByteArray) v8.toNat)
 let v10 : Int := (IntKind.i64.wrap v9)
 let v11 : Int := (IntKind.i64.wrap (t2 + v10))
 .ret v11) .fail)
noncomputable def q51_j7 (N : Nat) (t0 : Int) (t2 : Int) : Option Int := (q51_j7_T N t0 t2).run some
noncomputable def q51_j4_T (N : Nat) (t0 : Int) (t2 : Int) : Tree Int :=
 let v1 : Bool := (leI 65536 t0)
 .br v1 (
 let v2 : Int := (t0.fdiv (2 ^ 16))
 let v3 : Int := (IntKind.i64.wrap (t2 + 16))
 .call (q51_j7 N v2 v3) fun y4 => (
 .ret y4)) (
 .call (q51_j7 N t0 t2) fun y5 => (
 .ret y5))
noncomputable def q51_j4 (N : Nat) (t0 : Int) (t2 : Int) : Option Int := (q51_j4_T N t0 t2).run some
noncomputable def q51_T (N : Nat) (t0 : Int) : Tree Int :=
 let v1 : Bool := (leI 4294967296 t0)
 .br v1 (
 let v2 : Int := (t0.fdiv (2 ^ 32))
 .call (q51_j4 N v2 32) fun y3 => (
 .ret y3)) (
 .call (q51_j4 N t0 0) fun y4 => (
 .ret y4))
noncomputable def q51 (N : Nat) (t0 : Int) : Option Int := (q51_T N t0).run some
/-! ### math/bits.Len -/
noncomputable def q52_T (N : Nat) (t0 : Int) : Tree Int :=
 .call (q51 N t0) fun y1 => (
 .ret y1)
noncomputable def q52 (N : Nat) (t0 : Int) : Option Int := (q52_T N t0).run some
/-! ### cmp.isNaN[string] -/
noncomputable def q53_T (N : Nat) (t0 : ByteArray) : Tree Bool :=
 let v1 : Bool := (!(t0.toList == t0.toList))
 .ret v1
noncomputable def q53 (N : Nat) (t0 : ByteArray) : Option Bool := (q53_T N t0).run some
/-! ### cmp.Less[string] -/
noncomputable def q54_T (N : Nat) (t0 : ByteArray) (t1 : ByteArray) : Tree Bool :=
 .call (q53 N t0) fun y1 => (
 .br y1 (
 .call (q53 N t1) fun y2 => (
 let v3 : Bool := (!y2)
 .br v3 (
 .ret true) (
 let v4 : Bool := (Op.bytesLess t0.toList t1.toList)
 .ret v4))) (
 let v5 : Bool := (Op.bytesLess t0.toList t1.toList)
 .ret v5))
noncomputable def q54 (N : Nat) (t0 : ByteArray) (t1 : ByteArray) : Option Bool := (q54_T N t0 t1).run some
/-! ### slices.insertionSortOrdered[string] -/
noncomputable def q55_j6_T (N : Nat) (t7 : Int) (r0 : (List ByteArray)) : Tree (Int × (List ByteArray)) :=
 let v1 : Int := (IntKind.i64.wrap (t7 - 1))
 let v2 : Int := (IntKind.i64.wrap (t7 - 1))
 .br (inRange v2 r0.length) (
 let v3 : ByteArray := (r0.getD v2.toNat ByteArray.empty)
 .br (inRange t7 r0.length) (
 let v4 : ByteArray := (r0.getD t7.toNat ByteArray.empty)
 .br (inRange t7 r0.length) (
 let v5 : (List ByteArray) := (r0.set t7.toNat v3)
 .br (inRange v1 v5.length) (
 let v6 : (List ByteArray) := (v5.set v1.toNat v4)
 let v7 : Int := (IntKind.i64.wrap (t7 - 1))
 .ret (v7, v6)) .fail) .fail) .fail) .fail
noncomputable def q55_j6 (N : Nat) (t7 : Int) (r0 : (List ByteArray)) : Option (Int × (List ByteArray)) := (q55_j6_T N t7 r0).run some
noncomputable def q55_l4_T (N : Nat) (t1 : Int) (t7 : Int) (r0 : (List ByteArray)) : Tree ((Int × (List ByteArray)) ⊕ (List ByteArray)) :=
 let v1 : Bool := (ltI t1 t7)
 .br v1 (
 .br (inRange t7 r0.length) (
 let v2 : ByteArray := (r0.getD t7.toNat ByteArray.empty)
 let v3 : Int := (IntKind.i64.wrap (t7 - 1))
 .br (inRange v3 r0.length) (
 let v4 : ByteArray := (r0.getD v3.toNat ByteArray.empty)
 .call (q54 N v2 v4) fun y5 => (
 .br y5 (
 .call (q55_j6 N t7 r0) fun y6 => (
 .ret (.inl (y6.1, y6.2)))) (
 .ret (.inr r0)))) .fail) .fail) (
 .ret (.inr r0))
noncomputable def q55_l4 (N : Nat) (t1 : Int) (v : (Int × (List ByteArray))) : Option (List ByteArray) := loopN (fun v => q55_l4_T N t1 v.1 v.2) N v
noncomputable def q55_l1_T (N : Nat) (t1 : Int) (t2 : Int) (t6 : Int) (r0 : (List ByteArray)) : Tree ((Int × (List ByteArray)) ⊕ (List ByteArray)) :=
 let v1 : Bool := (ltI t6 t2)
 .br v1 (
 .call (q55_l4 N t1 (t6, r0)) fun y2 => (
 let v3 : Int := (IntKind.i64.wrap (t6 + 1))
 .ret (.inl (v3, y2)))) (
 .ret (.inr r0))
noncomputable def q55_l1 (N : Nat) (t1 : Int) (t2 : Int) (v : (Int × (List ByteArray))) : Option (List ByteArray) := loopN (fun v => q55_l1_T N t1 t2 v.1 v.2) N v
noncomputable def q55_T (N : Nat) (t1 : Int) (t2 : Int) (r0 : (List ByteArray)) : Tree (List ByteArray) :=
 let v1 : Int := (IntKind.i64.wrap (t1 + 1))
 .call (q55_l1 N t1 t2 (v1, r0)) fun y2 => (
 .ret y2)
noncomputable def q55 (N : Nat) (t1 : Int) (t2 : Int) (r0 : (List ByteArray)) : Option (List ByteArray) := (q55_T N t1 t2 r0).run some
/-! ### slices.pdqsortOrdered[string] -/
noncomputable def q56_l2_T (N : Nat) (t1 : Int) (t2 : Int) (t3 : Int) (t8 : Bool) (r0 : (List ByteArray)) : Tree (Unit ⊕ (List ByteArray)) :=
 let v1 : Int := (IntKind.i64.wrap (t2 - t1))
 let v2 : Bool := (leI v1 12)
 .br v2 (
 .call (q55 N t1 t2 r0) fun y3 => (
 .ret (.inr y3))) (
 let v4 : Bool := (t3 == 0)
 .br v4 (
 .fail) (
 let v5 : Bool := (!t8)
 .br v5 (
 .fail) .fail))
noncomputable def q56_l2 (N : Nat) (t1 : Int) (t2 : Int) (t3 : Int) (t8 : Bool) (r0 : (List ByteArray)) (v : Unit) : Option (List ByteArray) := loopN (fun v => q56_l2_T N t1 t2 t3 t8 r0 ) N v
noncomputable def q56_T (N : Nat) (t1 : Int) (t2 : Int) (t3 : Int) (r0 : (List ByteArray)) : Tree (List ByteArray) :=
 .call (q56_l2 N t1 t2 t3 true r0 ()) fun y1 => (
 .ret y1)
noncomputable def q56 (N : Nat) (t1 : Int) (t2 : Int) (t3 : Int) (r0 : (List ByteArray)) : Option (List ByteArray) := (q56_T N t1 t2 t3 r0).run some
/-! ### slices.Sort[[]string,string] -/
noncomputable def q57_T (N : Nat) (r0 : (List ByteArray)) : Tree (List ByteArray) :=
 let v1 : Int := (r0.length : Int)
 let v2 : Int := (IntKind.u64.wrap v1)
 .call (q52 N v2) fun y3 => (
 .call (q56 N 0 v1 y3 r0) fun y4 => (
 .ret y4))
noncomputable def q57 (N : Nat) (r0 : (List ByteArray)) : Option (List ByteArray) := (q57_T N r0).run some
/-! ### slices.Compact[[]string,string] -/
noncomputable def q58_l9_T (N : Nat) (t4a : Nat) (t4b : Nat) (t3 : Int) (t5 : Int) (r0 : (List ByteArray)) : Tree ((Int × Int × (List ByteArray)) ⊕ (Int × (List ByteArray))) :=
 let v1 : Int := (t4b : Int)
 let v2 : Bool := (ltI t5 v1)
 .br v2 (
 .br (inRange t5 t4b) (
 let v3 : ByteArray := (r0.getD (t4a + t5.toNat) ByteArray.empty)
 let v4 : Int := (IntKind.i64.wrap (t5 - 1))
 .br (inRange v4 t4b) (
 let v5 : ByteArray := (r0.getD (t4a + v4.toNat) ByteArray.empty)
 let v6 : Bool := (!(v3.toList == v5.toList))
 .br v6 (
 .br (inRange t5 t4b) (
 let v7 : ByteArray := (r0.getD (t4a + t5.toNat) ByteArray.empty)
 .br (inRange t3 r0.length) (
 let v8 : (List ByteArray) := (r0.set t3.toNat v7)
 let v9 : Int := (IntKind.i64.wrap (t3 + 1))
 let v10 : Int := (IntKind.i64.wrap (t5 + 1))
 .ret (.inl (v9, v10, v8))) .fail) .fail) (
 let v11 : Int := (IntKind.i64.wrap (t5 + 1))
 .ret (.inl (t3, v11, r0)))) .fail) .fail) (
 .ret (.inr (t3, r0)))
noncomputable def q58_l9 (N : Nat) (t4a : Nat) (t4b : Nat) (v : (Int × Int × (List ByteArray))) : Option (Int × (List ByteArray)) := loopN (fun v => q58_l9_T N t4a t4b v.1 v.2.1 v.2.2) N v
noncomputable def q58_l4_T (N : Nat) (r0 : (List ByteArray)) (t3 : Int) : Tree (Int ⊕ Unit) :=
 let v1 : Int := (r0.length : Int)
 let v2 : Bool := (ltI t3 v1)
 .br v2 (
 .br (inRange t3 r0.length) (
 let v3 : ByteArray := (r0.getD t3.toNat ByteArray.empty)
 let v4 : Int := (IntKind.i64.wrap (t3 - 1))
 .br (inRange v4 r0.length) (
 let v5 : ByteArray := (r0.getD v4.toNat ByteArray.empty)
 let v6 : Bool := (v3.toList == v5.toList)
 .br v6 (
 .br (leI 0 t3 && leI t3 (r0.length : Int)) (
 .call (q58_l9 N t3.toNat (r0.length - t3.toNat) (t3, 1, r0)) fun y7 => (
 .br (leI 0 y7.1 && leI y7.1 (y7.2.length : Int)) (
 .fail) .fail)) .fail) (
 let v8 : Int := (IntKind.i64.wrap (t3 + 1))
 .ret (.inl v8))) .fail) .fail) (
 .ret (.inr ()))
noncomputable def q58_l4 (N : Nat) (r0 : (List ByteArray)) (v : Int) : Option Unit := loopN (fun v => q58_l4_T N r0 v) N v
noncomputable def q58_T (N : Nat) (r0 : (List ByteArray)) : Tree Unit :=
 let v1 : Int := (r0.length : Int)
 let v2 : Bool := (ltI v1 2)
 .br v2 (
 .ret ()) (
 .call (q58_l4 N r0 1) fun y3 => (
 .ret ()))
noncomputable def q58 (N : Nat) (r0 : (List ByteArray)) : Option Unit := (q58_T N r0).run some
/-! ### bauta/names.twice -/
noncomputable def q59_T (N : Nat) (t0 : (List ByteArray)) : Tree Bool :=
 .call (q50 N t0) fun y1 => (
 .call (q57 N y1) fun y2 => (
 let v3 : Int := (y2.length : Int)
 .call (q58 N y2) fun y4 => (
 let v5 : Int := (y2.length : Int)
 let v6 : Bool := (ltI v5 v3)
 .ret v6)))
noncomputable def q59 (N : Nat) (t0 : (List ByteArray)) : Option Bool := (q59_T N t0).run some
/-! ### slices.Index[[]bool,bool] -/
noncomputable def q60_l2_T (N : Nat) (t0 : (List Bool)) (t1 : Bool) (t7 : Int) (t8 : Int) : Tree (Int ⊕ (Int ⊕ Unit)) :=
 let v1 : Bool := (ltI t8 t7)
 .br v1 (
 .br (inRange t8 t0.length) (
 let v2 : Bool := (t0.getD t8.toNat false)
 let v3 : Bool := (t1 == v2)
 .br v3 (
 .ret (.inr (.inl t8))) (
 let v4 : Int := (IntKind.i64.wrap (t8 + 1))
 .ret (.inl v4))) .fail) (
 .ret (.inr (.inr ())))
noncomputable def q60_l2 (N : Nat) (t0 : (List Bool)) (t1 : Bool) (t7 : Int) (v : Int) : Option (Int ⊕ Unit) := loopN (fun v => q60_l2_T N t0 t1 t7 v) N v
noncomputable def q60_T (N : Nat) (t0 : (List Bool)) (t1 : Bool) : Tree Int :=
 let v1 : Int := (t0.length : Int)
 .call (q60_l2 N t0 t1 v1 0) fun y2 => (
 .alt y2 (fun y3 => (
 .ret y3)) (fun y4 => (
 .ret (-1))))
noncomputable def q60 (N : Nat) (t0 : (List Bool)) (t1 : Bool) : Option Int := (q60_T N t0 t1).run some
/-! ### slices.Contains[[]bool,bool] -/
noncomputable def q61_T (N : Nat) (t0 : (List Bool)) (t1 : Bool) : Tree Bool :=
 .call (q60 N t0 t1) fun y1 => (
 let v2 : Bool := (leI 0 y1)
 .ret v2)
noncomputable def q61 (N : Nat) (t0 : (List Bool)) (t1 : Bool) : Option Bool := (q61_T N t0 t1).run some
/-! ### bauta/names.wrong -/
noncomputable def q62_T (N : Nat) (t1 : (List Bool)) : Tree (Unit ⊕ Unit) :=
 .call (q61 N t1 true) fun y1 => (
 .br y1 (
 .ret (.inl ())) (
 .ret (.inr ())))
noncomputable def q62 (N : Nat) (t1 : (List Bool)) : Option (Unit ⊕ Unit) := (q62_T N t1).run some
/-! ### (*bauta/names.checker).inputs -/
noncomputable def q63_l3_T (N : Nat) (t20 : (List ByteArray)) (t21 : Int) (t22 : Int) (r1 : (List (ByteArray × Int))) : Tree ((Int × (List (ByteArray × Int))) ⊕ (List (ByteArray × Int))) :=
 let v1 : Bool := (ltI t22 t21)
 .br v1 (
 .br (inRange t22 t20.length) (
 let v2 : ByteArray := (t20.getD t22.toNat ByteArray.empty)
 let v3 : (List (ByteArray × Int)) := (setE (eqE .str) v2 1 r1)
 let v4 : Int := (IntKind.i64.wrap (t22 + 1))
 .ret (.inl (v4, v3))) .fail) (
 .ret (.inr r1))
noncomputable def q63_l3 (N : Nat) (t20 : (List ByteArray)) (t21 : Int) (v : (Int × (List (ByteArray × Int)))) : Option (List (ByteArray × Int)) := loopN (fun v => q63_l3_T N t20 t21 v.1 v.2) N v
noncomputable def q63_T (N : Nat) (t1f : (List ByteArray)) (r1 : (List (ByteArray × Int))) (r2 : (List (ByteArray × Int))) (r5 : (List ByteArray)) : Tree (Unit ⊕ ((List (ByteArray × Int)) × (List ByteArray))) :=
 .call (q49 N t1f r1 r2) fun y1 => (
 .call (q59 N t1f) fun y2 => (
 .call (q62 N [y1, y2]) fun y3 => (
 .alt y3 (fun y4 => (
 .ret (.inl ()))) (fun y5 => (
 let v6 : Int := (t1f.length : Int)
 .call (q63_l3 N t1f v6 (0, r1)) fun y7 => (
 .br (ltI (((r5.length : Int) + (t1f.length : Int)) * 16) 140737488355328) (
 let v8 : (List ByteArray) := (r5 ++ t1f)
 .ret (.inr (y7, v8))) .fail))))))
noncomputable def q63 (N : Nat) (t1f : (List ByteArray)) (r1 : (List (ByteArray × Int))) (r2 : (List (ByteArray × Int))) (r5 : (List ByteArray)) : Option (Unit ⊕ ((List (ByteArray × Int)) × (List ByteArray))) := (q63_T N t1f r1 r2 r5).run some
/-! ### (*bauta/names.checker).inputs -/
noncomputable def q64_l3_T (N : Nat) (t20 : (List ByteArray)) (t21 : Int) (t22 : Int) (r1 : (List (ByteArray × Int))) : Tree ((Int × (List (ByteArray × Int))) ⊕ (List (ByteArray × Int))) :=
 let v1 : Bool := (ltI t22 t21)
 .br v1 (
 .br (inRange t22 t20.length) (
 let v2 : ByteArray := (t20.getD t22.toNat ByteArray.empty)
 let v3 : (List (ByteArray × Int)) := (setE (eqE .str) v2 1 r1)
 let v4 : Int := (IntKind.i64.wrap (t22 + 1))
 .ret (.inl (v4, v3))) .fail) (
 .ret (.inr r1))
noncomputable def q64_l3 (N : Nat) (t20 : (List ByteArray)) (t21 : Int) (v : (Int × (List (ByteArray × Int)))) : Option (List (ByteArray × Int)) := loopN (fun v => q64_l3_T N t20 t21 v.1 v.2) N v
noncomputable def q64_T (N : Nat) (t1f : (List ByteArray)) (r1 : (List (ByteArray × Int))) (r2 : (List (ByteArray × Int))) (r4 : (List ByteArray)) : Tree (Unit ⊕ ((List (ByteArray × Int)) × (List ByteArray))) :=
 .call (q49 N t1f r1 r2) fun y1 => (
 .call (q59 N t1f) fun y2 => (
 .call (q62 N [y1, y2]) fun y3 => (
 .alt y3 (fun y4 => (
 .ret (.inl ()))) (fun y5 => (
 let v6 : Int := (t1f.length : Int)
 .call (q64_l3 N t1f v6 (0, r1)) fun y7 => (
 .br (ltI (((r4.length : Int) + (t1f.length : Int)) * 16) 140737488355328) (
 let v8 : (List ByteArray) := (r4 ++ t1f)
 .ret (.inr (y7, v8))) .fail))))))
noncomputable def q64 (N : Nat) (t1f : (List ByteArray)) (r1 : (List (ByteArray × Int))) (r2 : (List (ByteArray × Int))) (r4 : (List ByteArray)) : Option (Unit ⊕ ((List (ByteArray × Int)) × (List ByteArray))) := (q64_T N t1f r1 r2 r4).run some
/-! ### (*bauta/names.checker).expr -/
noncomputable def q4_l7_T (N : Nat) (q4_r : Int → ByteArray → Int → Int → (List Node) → (List ByteArray) → (List (ByteArray × Int)) → (List (ByteArray × Int)) → (List (ByteArray × (Bool × Bool))) → (List ByteArray) → (List ByteArray) → Option (Int ⊕ Unit)) (t45 : (List Node)) (t46 : Int) (r1 : (List (ByteArray × Int))) (r2 : (List (ByteArray × Int))) (r3 : (List ByteArray)) (r4 : (List ByteArray)) (r5 : (List (ByteArray × (Bool × Bool)))) (t47 : Int) : Tree (Int ⊕ (Int ⊕ Unit)) :=
 let v1 : Bool := (ltI t47 t46)
 .br v1 (
 .br (inRange t47 t45.length) (
 let v2 : Node := (t45.getD t47.toNat (Node.mk 0 ByteArray.empty 0 0 [] []))
 .call (q4_r (Node.k v2) (Node.s v2) (Node.n v2) (Node.a v2) (Node.l v2) (Node.p v2) r1 r2 r5 r4 r3) fun y3 => (
 .alt y3 (fun y4 => (
 .ret (.inr (.inl y4)))) (fun y5 => (
 let v6 : Int := (IntKind.i64.wrap (t47 + 1))
 .ret (.inl v6))))) .fail) (
 .ret (.inr (.inr ())))
noncomputable def q4_l7 (N : Nat) (q4_r : Int → ByteArray → Int → Int → (List Node) → (List ByteArray) → (List (ByteArray × Int)) → (List (ByteArray × Int)) → (List (ByteArray × (Bool × Bool))) → (List ByteArray) → (List ByteArray) → Option (Int ⊕ Unit)) (t45 : (List Node)) (t46 : Int) (r1 : (List (ByteArray × Int))) (r2 : (List (ByteArray × Int))) (r3 : (List ByteArray)) (r4 : (List ByteArray)) (r5 : (List (ByteArray × (Bool × Bool)))) (v : Int) : Option (Int ⊕ Unit) := loopN (fun v => q4_l7_T N q4_r t45 t46 r1 r2 r3 r4 r5 v) N v
noncomputable def q4_j6_T (N : Nat) (q4_r : Int → ByteArray → Int → Int → (List Node) → (List ByteArray) → (List (ByteArray × Int)) → (List (ByteArray × Int)) → (List (ByteArray × (Bool × Bool))) → (List ByteArray) → (List ByteArray) → Option (Int ⊕ Unit)) (r1 : (List (ByteArray × Int))) (r2 : (List (ByteArray × Int))) (r3e : (List Node)) (r4 : (List ByteArray)) (r5 : (List ByteArray)) (r6 : (List (ByteArray × (Bool × Bool)))) : Tree (Int ⊕ Unit) :=
 let v1 : Int := (r3e.length : Int)
 .call (q4_l7 N q4_r r3e v1 r1 r2 r4 r5 r6 0) fun y2 => (
 .alt y2 (fun y3 => (
 .ret (.inl y3))) (fun y4 => (
 .ret (.inr ()))))
noncomputable def q4_j6 (N : Nat) (q4_r : Int → ByteArray → Int → Int → (List Node) → (List ByteArray) → (List (ByteArray × Int)) → (List (ByteArray × Int)) → (List (ByteArray × (Bool × Bool))) → (List ByteArray) → (List ByteArray) → Option (Int ⊕ Unit)) (r1 : (List (ByteArray × Int))) (r2 : (List (ByteArray × Int))) (r3e : (List Node)) (r4 : (List ByteArray)) (r5 : (List ByteArray)) (r6 : (List (ByteArray × (Bool × Bool)))) : Option (Int ⊕ Unit) := (q4_j6_T N q4_r r1 r2 r3e r4 r5 r6).run some
noncomputable def q4_T (N : Nat) (q4_r : Int → ByteArray → Int → Int → (List Node) → (List ByteArray) → (List (ByteArray × Int)) → (List (ByteArray × Int)) → (List (ByteArray × (Bool × Bool))) → (List ByteArray) → (List ByteArray) → Option (Int ⊕ Unit)) (t1a : Int) (t1b : ByteArray) (t1c : Int) (t1d : Int) (t1e : (List Node)) (t1f : (List ByteArray)) (r1 : (List (ByteArray × Int))) (r2 : (List (ByteArray × Int))) (r3 : (List (ByteArray × (Bool × Bool)))) (r4 : (List ByteArray)) (r5 : (List ByteArray)) : Tree (Int ⊕ Unit) :=
 let v1 : Bool := (t1a == 1)
 .br v1 (
 let v2 : Int := (getE (eqE .str) t1b 0 r1)
 let v3 : Bool := (v2 == 0)
 .call (q62 N [v3]) fun y4 => (
 .alt y4 (fun y5 => (
 .ret (.inl t1d))) (fun y6 => (
 .call (q4_j6 N q4_r r1 r2 t1e r5 r4 r3) fun y7 => (
 .alt y7 (fun y8 => (
 .ret (.inl y8))) (fun y9 => (
 .ret (.inr ())))))))) (
 let v10 : Bool := (t1a == 5)
 .br v10 (
 .call (q46 N t1b r2) fun y11 => (
 let v12 : Bool := (!y11)
 .br v12 (
 .call (q62 N [true]) fun y13 => (
 .alt y13 (fun y14 => (
 .ret (.inl t1d))) (fun y15 => (
 .call (q4_j6 N q4_r r1 r2 t1e r5 r4 r3) fun y16 => (
 .alt y16 (fun y17 => (
 .ret (.inl y17))) (fun y18 => (
 .ret (.inr ())))))))) (
 let v19 : Int := (getE (eqE .str) t1b 0 r2)
 let v20 : Int := (t1e.length : Int)
 let v21 : Bool := (v19 != v20)
 .call (q62 N [v21]) fun y22 => (
 .alt y22 (fun y23 => (
 .ret (.inl t1d))) (fun y24 => (
 .call (q4_j6 N q4_r r1 r2 t1e r5 r4 r3) fun y25 => (
 .alt y25 (fun y26 => (
 .ret (.inl y26))) (fun y27 => (
 .ret (.inr ())))))))))) (
 .call (q4_j6 N q4_r r1 r2 t1e r5 r4 r3) fun y28 => (
 .alt y28 (fun y29 => (
 .ret (.inl y29))) (fun y30 => (
 .ret (.inr ()))))))
noncomputable def q4_R (N : Nat) : Nat → Int → ByteArray → Int → Int → (List Node) → (List ByteArray) → (List (ByteArray × Int)) → (List (ByteArray × Int)) → (List (ByteArray × (Bool × Bool))) → (List ByteArray) → (List ByteArray) → Option (Int ⊕ Unit)
 | 0 => fun _ _ _ _ _ _ _ _ _ _ _ => none
 | k + 1 => fun t1a t1b t1c t1d t1e t1f r1 r2 r3 r4 r5 => (q4_T N (q4_R N k) t1a t1b t1c t1d t1e t1f r1 r2 r3 r4 r5).run some
noncomputable def q4 (N : Nat) : Int → ByteArray → Int → Int → (List Node) → (List ByteArray) → (List (ByteArray × Int)) → (List (ByteArray × Int)) → (List (ByteArray × (Bool × Bool))) → (List ByteArray) → (List ByteArray) → Option (Int ⊕ Unit) := q4_R N N
/-! ### (*bauta/names.checker).exprs -/
noncomputable def q65_l1_T (N : Nat) (t6 : (List Node)) (t7 : Int) (r1 : (List (ByteArray × Int))) (r2 : (List (ByteArray × Int))) (r3 : (List ByteArray)) (r4 : (List ByteArray)) (r5 : (List (ByteArray × (Bool × Bool)))) (t8 : Int) : Tree (Int ⊕ (Int ⊕ Unit)) :=
 let v1 : Bool := (ltI t8 t7)
 .br v1 (
 .br (inRange t8 t6.length) (
 let v2 : Node := (t6.getD t8.toNat (Node.mk 0 ByteArray.empty 0 0 [] []))
 .call (q4 N (Node.k v2) (Node.s v2) (Node.n v2) (Node.a v2) (Node.l v2) (Node.p v2) r1 r2 r5 r4 r3) fun y3 => (
 .alt y3 (fun y4 => (
 .ret (.inr (.inl y4)))) (fun y5 => (
 let v6 : Int := (IntKind.i64.wrap (t8 + 1))
 .ret (.inl v6))))) .fail) (
 .ret (.inr (.inr ())))
noncomputable def q65_l1 (N : Nat) (t6 : (List Node)) (t7 : Int) (r1 : (List (ByteArray × Int))) (r2 : (List (ByteArray × Int))) (r3 : (List ByteArray)) (r4 : (List ByteArray)) (r5 : (List (ByteArray × (Bool × Bool)))) (v : Int) : Option (Int ⊕ Unit) := loopN (fun v => q65_l1_T N t6 t7 r1 r2 r3 r4 r5 v) N v
noncomputable def q65_T (N : Nat) (t1 : (List Node)) (r1 : (List (ByteArray × Int))) (r2 : (List (ByteArray × Int))) (r3 : (List (ByteArray × (Bool × Bool)))) (r4 : (List ByteArray)) (r5 : (List ByteArray)) : Tree (Int ⊕ Unit) :=
 let v1 : Int := (t1.length : Int)
 .call (q65_l1 N t1 v1 r1 r2 r5 r4 r3 0) fun y2 => (
 .alt y2 (fun y3 => (
 .ret (.inl y3))) (fun y4 => (
 .ret (.inr ()))))
noncomputable def q65 (N : Nat) (t1 : (List Node)) (r1 : (List (ByteArray × Int))) (r2 : (List (ByteArray × Int))) (r3 : (List (ByteArray × (Bool × Bool)))) (r4 : (List ByteArray)) (r5 : (List ByteArray)) : Option (Int ⊕ Unit) := (q65_T N t1 r1 r2 r3 r4 r5).run some
/-! ### (*bauta/names.checker).stmt$1 -/
noncomputable def q66_T (N : Nat) (t0a : ByteArray) (r0b : ByteArray) : Tree Bool :=
 let v1 : Bool := (t0a.toList == r0b.toList)
 .ret v1
noncomputable def q66 (N : Nat) (t0a : ByteArray) (r0b : ByteArray) : Option Bool := (q66_T N t0a r0b).run some
/-! ### slices.IndexFunc[[]bauta/api.Label,bauta/api.Label] -/
noncomputable def q67_l2_T (N : Nat) (t7 : Int) (r0 : (List (ByteArray × (Bool × Bool)))) (r1b : ByteArray) (t8 : Int) : Tree (Int ⊕ (Int ⊕ Unit)) :=
 let v1 : Bool := (ltI t8 t7)
 .br v1 (
 .br (inRange t8 r0.length) (
 let v2 : (ByteArray × (Bool × Bool)) := (r0.getD t8.toNat (ByteArray.empty, (false, false)))
 .call (q66 N v2.1 r1b) fun y3 => (
 .br y3 (
 .ret (.inr (.inl t8))) (
 let v4 : Int := (IntKind.i64.wrap (t8 + 1))
 .ret (.inl v4)))) .fail) (
 .ret (.inr (.inr ())))
noncomputable def q67_l2 (N : Nat) (t7 : Int) (r0 : (List (ByteArray × (Bool × Bool)))) (r1b : ByteArray) (v : Int) : Option (Int ⊕ Unit) := loopN (fun v => q67_l2_T N t7 r0 r1b v) N v
noncomputable def q67_T (N : Nat) (r0 : (List (ByteArray × (Bool × Bool)))) (r1b : ByteArray) : Tree Int :=
 let v1 : Int := (r0.length : Int)
 .call (q67_l2 N v1 r0 r1b 0) fun y2 => (
 .alt y2 (fun y3 => (
 .ret y3)) (fun y4 => (
 .ret (-1))))
noncomputable def q67 (N : Nat) (r0 : (List (ByteArray × (Bool × Bool)))) (r1b : ByteArray) : Option Int := (q67_T N r0 r1b).run some
/-! ### slices.ContainsFunc[[]bauta/api.Label,bauta/api.Label] -/
noncomputable def q68_T (N : Nat) (r0 : (List (ByteArray × (Bool × Bool)))) (r1b : ByteArray) : Tree Bool :=
 .call (q67 N r0 r1b) fun y1 => (
 let v2 : Bool := (leI 0 y1)
 .ret v2)
noncomputable def q68 (N : Nat) (r0 : (List (ByteArray × (Bool × Bool)))) (r1b : ByteArray) : Option Bool := (q68_T N r0 r1b).run some
/-! ### (*bauta/names.checker).stmt -/
noncomputable def q69_j16_T (N : Nat) (t69 : Bool) (r1a : Int) (r1b : ByteArray) (r1d : Int) (r1e : (List Node)) (r2 : (List (ByteArray × Int))) (r3 : (List (ByteArray × Int))) (r4 : (List ByteArray)) (r5 : (List ByteArray)) (r6 : (List (ByteArray × (Bool × Bool)))) : Tree (Int ⊕ (List (ByteArray × (Bool × Bool)))) :=
 .br t69 (
 .call (q65 N r1e r2 r3 r6 r5 r4) fun y1 => (
 .alt y1 (fun y2 => (
 .ret (.inl y2))) (fun y3 => (
 .call (q68 N r6 r1b) fun y4 => (
 .call (q62 N [y4]) fun y5 => (
 .alt y5 (fun y6 => (
 .ret (.inl r1d))) (fun y7 => (
 let v8 : Bool := (r1a == 9)
 .br (ltI (((r6.length : Int) + 1) * 24) 140737488355328) (
 let v9 : (List (ByteArray × (Bool × Bool))) := (r6 ++ [(r1b, (false, v8))])
 .ret (.inr v9)) .fail)))))))) (
 .ret (.inr r6))
noncomputable def q69_j16 (N : Nat) (t69 : Bool) (r1a : Int) (r1b : ByteArray) (r1d : Int) (r1e : (List Node)) (r2 : (List (ByteArray × Int))) (r3 : (List (ByteArray × Int))) (r4 : (List ByteArray)) (r5 : (List ByteArray)) (r6 : (List (ByteArray × (Bool × Bool)))) : Option (Int ⊕ (List (ByteArray × (Bool × Bool)))) := (q69_j16_T N t69 r1a r1b r1d r1e r2 r3 r4 r5 r6).run some
noncomputable def q69_T (N : Nat) (t1a : Int) (t1b : ByteArray) (t1d : Int) (t1e : (List Node)) (t1f : (List ByteArray)) (r1 : (List (ByteArray × Int))) (r2 : (List (ByteArray × Int))) (r3 : (List (ByteArray × (Bool × Bool)))) (r4 : (List ByteArray)) (r5 : (List ByteArray)) : Tree (Int ⊕ ((List (ByteArray × Int)) × (List ByteArray) × (List ByteArray) × (List (ByteArray × (Bool × Bool))))) :=
 let v1 : Bool := (t1a == 6)
 .br v1 (
 .call (q63 N t1f r1 r2 r5) fun y2 => (
 .alt y2 (fun y3 => (
 .ret (.inl t1d))) (fun y4 => (
 .ret (.inr (y4.1, y4.2, r4, r3)))))) (
 let v5 : Bool := (t1a == 7)
 .br v5 (
 .call (q64 N t1f r1 r2 r4) fun y6 => (
 .alt y6 (fun y7 => (
 .ret (.inl t1d))) (fun y8 => (
 .ret (.inr (y8.1, r5, y8.2, r3)))))) (
 let v9 : Bool := (t1a == 12)
 .br v9 (
 .fail) (
 let v10 : Bool := (t1a == 11)
 .br v10 (
 .fail) (
 let v11 : Bool := (t1a == 10)
 .br v11 (
 .call (q65 N t1e r1 r2 r3 r4 r5) fun y12 => (
 .alt y12 (fun y13 => (
 .ret (.inl y13))) (fun y14 => (
 .call (q46 N t1b r2) fun y15 => (
 let v16 : Int := (getE (eqE .str) t1b 0 r1)
 let v17 : Bool := (v16 == 1)
 let v18 : Int := (getE (eqE .str) t1b 0 r1)
 let v19 : Bool := (v18 == 3)
 .call (q62 N [y15, v17, v19]) fun y20 => (
 .alt y20 (fun y21 => (
 .ret (.inl t1d))) (fun y22 => (
 let v23 : (List (ByteArray × Int)) := (setE (eqE .str) t1b 2 r1)
 .ret (.inr (v23, r5, r4, r3)))))))))) (
 let v24 : Bool := (t1a == 8)
 .br v24 (
 .call (q69_j16 N v24 t1a t1b t1d t1e r1 r2 r5 r4 r3) fun y25 => (
 .alt y25 (fun y26 => (
 .ret (.inl y26))) (fun y27 => (
 .ret (.inr (r1, r5, r4, y27)))))) (
 let v28 : Bool := (t1a == 9)
 .call (q69_j16 N v28 t1a t1b t1d t1e r1 r2 r5 r4 r3) fun y29 => (
 .alt y29 (fun y30 => (
 .ret (.inl y30))) (fun y31 => (
 .ret (.inr (r1, r5, r4, y31)))))))))))
noncomputable def q69 (N : Nat) (t1a : Int) (t1b : ByteArray) (t1d : Int) (t1e : (List Node)) (t1f : (List ByteArray)) (r1 : (List (ByteArray × Int))) (r2 : (List (ByteArray × Int))) (r3 : (List (ByteArray × (Bool × Bool)))) (r4 : (List ByteArray)) (r5 : (List ByteArray)) : Option (Int ⊕ ((List (ByteArray × Int)) × (List ByteArray) × (List ByteArray) × (List (ByteArray × (Bool × Bool))))) := (q69_T N t1a t1b t1d t1e t1f r1 r2 r3 r4 r5).run some
/-! ### (*bauta/names.checker).stmts -/
noncomputable def q70_l1_T (N : Nat) (t6 : (List Node)) (t7 : Int) (r2 : (List (ByteArray × Int))) (t8 : Int) (r1 : (List (ByteArray × Int))) (r3 : (List ByteArray)) (r4 : (List ByteArray)) (r5 : (List (ByteArray × (Bool × Bool)))) : Tree ((Int × (List (ByteArray × Int)) × (List ByteArray) × (List ByteArray) × (List (ByteArray × (Bool × Bool)))) ⊕ ((Int × (List (ByteArray × Int)) × (List ByteArray) × (List ByteArray) × (List (ByteArray × (Bool × Bool)))) ⊕ ((List (ByteArray × Int)) × (List ByteArray) × (List ByteArray) × (List (ByteArray × (Bool × Bool)))))) :=
 let v1 : Bool := (ltI t8 t7)
 .br v1 (
 .br (inRange t8 t6.length) (
 let v2 : Node := (t6.getD t8.toNat (Node.mk 0 ByteArray.empty 0 0 [] []))
 .call (q69 N (Node.k v2) (Node.s v2) (Node.a v2) (Node.l v2) (Node.p v2) r1 r2 r5 r4 r3) fun y3 => (
 .alt y3 (fun y4 => (
 .ret (.inr (.inl (y4, r1, r3, r4, r5))))) (fun y5 => (
 let v6 : Int := (IntKind.i64.wrap (t8 + 1))
 .ret (.inl (v6, y5.1, y5.2.1, y5.2.2.1, y5.2.2.2)))))) .fail) (
 .ret (.inr (.inr (r1, r3, r4, r5))))
noncomputable def q70_l1 (N : Nat) (t6 : (List Node)) (t7 : Int) (r2 : (List (ByteArray × Int))) (v : (Int × (List (ByteArray × Int)) × (List ByteArray) × (List ByteArray) × (List (ByteArray × (Bool × Bool))))) : Option ((Int × (List (ByteArray × Int)) × (List ByteArray) × (List ByteArray) × (List (ByteArray × (Bool × Bool)))) ⊕ ((List (ByteArray × Int)) × (List ByteArray) × (List ByteArray) × (List (ByteArray × (Bool × Bool))))) := loopN (fun v => q70_l1_T N t6 t7 r2 v.1 v.2.1 v.2.2.1 v.2.2.2.1 v.2.2.2.2) N v
noncomputable def q70_T (N : Nat) (t1 : (List Node)) (r1 : (List (ByteArray × Int))) (r2 : (List (ByteArray × Int))) (r3 : (List (ByteArray × (Bool × Bool)))) (r4 : (List ByteArray)) (r5 : (List ByteArray)) : Tree ((Int × (List (ByteArray × Int)) × (List ByteArray) × (List ByteArray) × (List (ByteArray × (Bool × Bool)))) ⊕ ((List (ByteArray × Int)) × (List ByteArray) × (List ByteArray) × (List (ByteArray × (Bool × Bool))))) :=
 let v1 : Int := (t1.length : Int)
 .call (q70_l1 N t1 v1 r2 (0, r1, r5, r4, r3)) fun y2 => (
 .alt y2 (fun y3 => (
 .ret (.inl (y3.1, y3.2.1, y3.2.2.1, y3.2.2.2.1, y3.2.2.2.2)))) (fun y4 => (
 .ret (.inr (y4.1, y4.2.1, y4.2.2.1, y4.2.2.2)))))
noncomputable def q70 (N : Nat) (t1 : (List Node)) (r1 : (List (ByteArray × Int))) (r2 : (List (ByteArray × Int))) (r3 : (List (ByteArray × (Bool × Bool)))) (r4 : (List ByteArray)) (r5 : (List ByteArray)) : Option ((Int × (List (ByteArray × Int)) × (List ByteArray) × (List ByteArray) × (List (ByteArray × (Bool × Bool)))) ⊕ ((List (ByteArray × Int)) × (List ByteArray) × (List ByteArray) × (List (ByteArray × (Bool × Bool))))) := (q70_T N t1 r1 r2 r3 r4 r5).run some
/-! ### bauta/names.check -/
noncomputable def q71_T (N : Nat) (t0e : (List Node)) : Tree (Int × Int × (List ByteArray) × (List ByteArray) × (List (ByteArray × (Bool × Bool)))) :=
 let v1 : (List (ByteArray × Int)) := (setE (eqE .str) (⟨#[115, 101, 108]⟩ : ByteArray) 3 [])
 .call (q70 N t0e [] v1 [] [] []) fun y2 => (
 .alt y2 (fun y3 => (
 .ret (y3.1, 120, [], [], []))) (fun y4 => (
 .ret (0, 0, y4.2.1, y4.2.2.1, y4.2.2.2))))
noncomputable def q71 (N : Nat) (t0e : (List Node)) : Option (Int × Int × (List ByteArray) × (List ByteArray) × (List (ByteArray × (Bool × Bool)))) := (q71_T N t0e).run some
/-! ### bauta/names.Program -/
noncomputable def q72_T (N : Nat) (t0 : ByteArray) : Tree ((Int × Int × (List ByteArray) × (List ByteArray) × (List (ByteArray × (Bool × Bool)))) ⊕ (Int × (List Node) × (List ByteArray) × (List ByteArray) × (List (ByteArray × (Bool × Bool))))) :=
 .call (q45 N t0) fun y1 => (
 .alt y1 (fun y2 => (
 let v4 : Bool := (y2.2 != 0)
 .br v4 (
 .ret (.inl (y2.1, y2.2, [], [], []))) (
 .call (q71 N []) fun y5 => (
 let v6 : Bool := (y5.2.1 != 0)
 .br v6 (
 .ret (.inl (y5.1, y5.2.1, [], [], []))) (
 .ret (.inl (0, 0, y5.2.2.1, y5.2.2.2.1, y5.2.2.2.2))))))) (fun y3 => (
 .call (q71 N y3.2) fun y7 => (
 let v8 : Bool := (y7.2.1 != 0)
 .br v8 (
 .ret (.inl (y7.1, y7.2.1, [], [], []))) (
 .ret (.inr (y3.1, y3.2, y7.2.2.1, y7.2.2.2.1, y7.2.2.2.2)))))))
noncomputable def q72 (N : Nat) (t0 : ByteArray) : Option ((Int × Int × (List ByteArray) × (List ByteArray) × (List (ByteArray × (Bool × Bool)))) ⊕ (Int × (List Node) × (List ByteArray) × (List ByteArray) × (List (ByteArray × (Bool × Bool))))) := (q72_T N t0).run some
/-! ### bauta/flow.fail -/
noncomputable def q73_T (N : Nat) : Tree Unit :=
 .ret ()
noncomputable def q73 (N : Nat) : Option Unit := (q73_T N).run some
/-! ### (*bauta/flow.flow).node -/
noncomputable def q74_T (N : Nat) (t1a : Int) (r1b : Int) : Tree (Int ⊕ Int) :=
 let v1 : Int := (IntKind.i64.wrap (r1b + 1))
 let v2 : Bool := (ltI 20000 v1)
 .br v2 (
 let v3 : Bool := (t1a == 5)
 .br v3 (
 .call (q73 N) fun y4 => (
 .ret (.inl v1))) (
 .ret (.inr v1))) (
 .ret (.inr v1))
noncomputable def q74 (N : Nat) (t1a : Int) (r1b : Int) : Option (Int ⊕ Int) := (q74_T N t1a r1b).run some
/-! ### (*bauta/flow.flow).expr -/
noncomputable def q5_l12_T (N : Nat) (q5_r : Int → ByteArray → Int → Int → (List Node) → (List ByteArray) → Int → Int → Int → (List (ByteArray × (Bool × (Bool × Int)))) → (List (ByteArray × Node)) → (List (ByteArray × (Bool × Bool))) → Option ((Int × Int) ⊕ (Bool × Int))) (t43 : (List Node)) (t44 : Int) (r0 : Int) (r1a : Int) (r2 : (List (ByteArray × (Bool × (Bool × Int))))) (r3 : (List (ByteArray × Node))) (r4 : (List (ByteArray × (Bool × Bool)))) (t5 : Bool) (t45 : Int) (r1b : Int) : Tree ((Bool × Int × Int) ⊕ ((Int × Int) ⊕ (Bool × Int))) :=
 let v1 : Bool := (ltI t45 t44)
 .br v1 (
 .br (inRange t45 t43.length) (
 let v2 : Node := (t43.getD t45.toNat (Node.mk 0 ByteArray.empty 0 0 [] []))
 .call (q5_r (Node.k v2) (Node.s v2) (Node.n v2) (Node.a v2) (Node.l v2) (Node.p v2) r0 r1a r1b r2 r3 r4) fun y3 => (
 .alt y3 (fun y4 => (
 .ret (.inr (.inl (y4.1, y4.2))))) (fun y5 => (
 .br y5.1 (
 let v6 : Int := (IntKind.i64.wrap (t45 + 1))
 .ret (.inl (true, v6, y5.2))) (
 let v7 : Int := (IntKind.i64.wrap (t45 + 1))
 .ret (.inl (t5, v7, y5.2))))))) .fail) (
 .ret (.inr (.inr (t5, r1b))))
noncomputable def q5_l12 (N : Nat) (q5_r : Int → ByteArray → Int → Int → (List Node) → (List ByteArray) → Int → Int → Int → (List (ByteArray × (Bool × (Bool × Int)))) → (List (ByteArray × Node)) → (List (ByteArray × (Bool × Bool))) → Option ((Int × Int) ⊕ (Bool × Int))) (t43 : (List Node)) (t44 : Int) (r0 : Int) (r1a : Int) (r2 : (List (ByteArray × (Bool × (Bool × Int))))) (r3 : (List (ByteArray × Node))) (r4 : (List (ByteArray × (Bool × Bool)))) (v : (Bool × Int × Int)) : Option ((Int × Int) ⊕ (Bool × Int)) := loopN (fun v => q5_l12_T N q5_r t43 t44 r0 r1a r2 r3 r4 v.1 v.2.1 v.2.2) N v
noncomputable def q5_T (N : Nat) (q5_r : Int → ByteArray → Int → Int → (List Node) → (List ByteArray) → Int → Int → Int → (List (ByteArray × (Bool × (Bool × Int)))) → (List (ByteArray × Node)) → (List (ByteArray × (Bool × Bool))) → Option ((Int × Int) ⊕ (Bool × Int))) (t1a : Int) (t1b : ByteArray) (t1c : Int) (t1d : Int) (t1e : (List Node)) (t1f : (List ByteArray)) (r0 : Int) (r1a : Int) (r1b : Int) (r2 : (List (ByteArray × (Bool × (Bool × Int))))) (r3 : (List (ByteArray × Node))) (r4 : (List (ByteArray × (Bool × Bool)))) : Tree ((Int × Int) ⊕ (Bool × Int)) :=
 .call (q74 N t1a r1b) fun y1 => (
 .alt y1 (fun y2 => (
 .ret (.inl (t1d, y2)))) (fun y3 => (
 let v4 : Bool := (t1a == 1)
 .br v4 (
 let v5 : (Bool × (Bool × Int)) := (getE (eqE .str) t1b (false, (false, 0)) r2)
 .ret (.inr (v5.1, y3))) (
 let v6 : Bool := (t1a == 4)
 .br v6 (
 .br (inRange 1 t1e.length) (
 .fail) .fail) (
 let v8 : Bool := (t1a == 5)
 .br v8 (
 .fail) (
 let v9 : Int := (t1e.length : Int)
 .call (q5_l12 N q5_r t1e v9 r0 r1a r2 r3 r4 (false, 0, y3)) fun y10 => (
 .alt y10 (fun y11 => (
 .ret (.inl (y11.1, y11.2)))) (fun y12 => (
 .ret (.inr (y12.1, y12.2)))))))))))
noncomputable def q5_R (N : Nat) : Nat → Int → ByteArray → Int → Int → (List Node) → (List ByteArray) → Int → Int → Int → (List (ByteArray × (Bool × (Bool × Int)))) → (List (ByteArray × Node)) → (List (ByteArray × (Bool × Bool))) → Option ((Int × Int) ⊕ (Bool × Int))
 | 0 => fun _ _ _ _ _ _ _ _ _ _ _ _ => none
 | k + 1 => fun t1a t1b t1c t1d t1e t1f r0 r1a r1b r2 r3 r4 => (q5_T N (q5_R N k) t1a t1b t1c t1d t1e t1f r0 r1a r1b r2 r3 r4).run some
noncomputable def q5 (N : Nat) : Int → ByteArray → Int → Int → (List Node) → (List ByteArray) → Int → Int → Int → (List (ByteArray × (Bool × (Bool × Int)))) → (List (ByteArray × Node)) → (List (ByteArray × (Bool × Bool))) → Option ((Int × Int) ⊕ (Bool × Int)) := q5_R N N
/-! ### (*bauta/flow.flow).stmt -/
noncomputable def q75_l5_T (N : Nat) (t13 : (List ByteArray)) (t14 : Int) (r4a : Int) (t15 : Int) (r2 : (List (ByteArray × (Bool × (Bool × Int))))) : Tree ((Int × (List (ByteArray × (Bool × (Bool × Int))))) ⊕ (List (ByteArray × (Bool × (Bool × Int))))) :=
 let v1 : Bool := (ltI t15 t14)
 .br v1 (
 .br (inRange t15 t13.length) (
 let v2 : ByteArray := (t13.getD t15.toNat ByteArray.empty)
 let v3 : Bool := (r4a == 6)
 let v4 : (List (ByteArray × (Bool × (Bool × Int)))) := (setE (eqE .str) v2 (v3, (false, 0)) r2)
 let v5 : Int := (IntKind.i64.wrap (t15 + 1))
 .ret (.inl (v5, v4))) .fail) (
 .ret (.inr r2))
noncomputable def q75_l5 (N : Nat) (t13 : (List ByteArray)) (t14 : Int) (r4a : Int) (v : (Int × (List (ByteArray × (Bool × (Bool × Int)))))) : Option (List (ByteArray × (Bool × (Bool × Int)))) := loopN (fun v => q75_l5_T N t13 t14 r4a v.1 v.2) N v
noncomputable def q75_j20_T (N : Nat) (t6 : Bool) (r4a : Int) (r4b : ByteArray) (r5 : (List (ByteArray × (Bool × Bool)))) : Tree (List (ByteArray × (Bool × Bool))) :=
 let v1 : Bool := (r4a == 9)
 .br (ltI (((r5.length : Int) + 1) * 24) 140737488355328) (
 let v2 : (List (ByteArray × (Bool × Bool))) := (r5 ++ [(r4b, (t6, v1))])
 .ret v2) .fail
noncomputable def q75_j20 (N : Nat) (t6 : Bool) (r4a : Int) (r4b : ByteArray) (r5 : (List (ByteArray × (Bool × Bool)))) : Option (List (ByteArray × (Bool × Bool))) := (q75_j20_T N t6 r4a r4b r5).run some
noncomputable def q75_j17_T (N : Nat) (t58 : Bool) (r0 : Int) (r1a : Int) (r1b : Int) (r2 : (List (ByteArray × (Bool × (Bool × Int))))) (r3 : (List (ByteArray × Node))) (r4a : Int) (r4b : ByteArray) (r4d : Int) (r4e : (List Node)) (r5 : (List (ByteArray × (Bool × Bool)))) : Tree ((Int × Int × Int) ⊕ (Int × (List (ByteArray × (Bool × Bool))))) :=
 .br t58 (
 .br (inRange 0 r4e.length) (
 let v1 : Node := (r4e.getD 0 (Node.mk 0 ByteArray.empty 0 0 [] []))
 .call (q5 N (Node.k v1) (Node.s v1) (Node.n v1) (Node.a v1) (Node.l v1) (Node.p v1) r0 r1a r1b r2 r3 r5) fun y2 => (
 .alt y2 (fun y3 => (
 .ret (.inl (y3.1, 150, y3.2)))) (fun y4 => (
 .br y4.1 (
 let v5 : Bool := (r4a == 9)
 .br v5 (
 .call (q73 N) fun y6 => (
 .ret (.inl (r4d, 130, y4.2)))) (
 .call (q75_j20 N y4.1 r4a r4b r5) fun y7 => (
 .ret (.inr (y4.2, y7))))) (
 .call (q75_j20 N y4.1 r4a r4b r5) fun y8 => (
 .ret (.inr (y4.2, y8)))))))) .fail) (
 .ret (.inr (r1b, r5)))
noncomputable def q75_j17 (N : Nat) (t58 : Bool) (r0 : Int) (r1a : Int) (r1b : Int) (r2 : (List (ByteArray × (Bool × (Bool × Int))))) (r3 : (List (ByteArray × Node))) (r4a : Int) (r4b : ByteArray) (r4d : Int) (r4e : (List Node)) (r5 : (List (ByteArray × (Bool × Bool)))) : Option ((Int × Int × Int) ⊕ (Int × (List (ByteArray × (Bool × Bool))))) := (q75_j17_T N t58 r0 r1a r1b r2 r3 r4a r4b r4d r4e r5).run some
noncomputable def q75_j4_T (N : Nat) (t8 : Int) (t9 : Bool) (r0 : Int) (r1a : Int) (r1b : Int) (r2 : (List (ByteArray × (Bool × (Bool × Int))))) (r3 : (List (ByteArray × Node))) (r4a : Int) (r4b : ByteArray) (r4c : Int) (r4d : Int) (r4e : (List Node)) (r4f : (List ByteArray)) (r5 : (List (ByteArray × (Bool × Bool)))) : Tree ((Int × (List (ByteArray × (Bool × (Bool × Int)))) × (List (ByteArray × Node)) × (List (ByteArray × (Bool × Bool)))) ⊕ (Int × Int × Int)) :=
 .br t9 (
 let v1 : Int := (r4f.length : Int)
 .call (q75_l5 N r4f v1 r4a (0, r2)) fun y2 => (
 .ret (.inl (r1b, y2, r3, r5)))) (
 let v3 : Bool := (t8 == 12)
 .br v3 (
 let v4 : (List (ByteArray × Node)) := (setE (eqE .str) r4b (Node.mk r4a r4b r4c r4d r4e r4f) r3)
 .ret (.inl (r1b, r2, v4, r5))) (
 let v5 : Bool := (t8 == 11)
 .br v5 (
 .fail) (
 let v6 : Bool := (t8 == 10)
 .br v6 (
 .br (inRange 0 r4e.length) (
 let v7 : Node := (r4e.getD 0 (Node.mk 0 ByteArray.empty 0 0 [] []))
 .call (q5 N (Node.k v7) (Node.s v7) (Node.n v7) (Node.a v7) (Node.l v7) (Node.p v7) r0 r1a r1b r2 r3 r5) fun y8 => (
 .alt y8 (fun y9 => (
 .ret (.inr (y9.1, 150, y9.2)))) (fun y10 => (
 let v11 : (List (ByteArray × (Bool × (Bool × Int)))) := (setE (eqE .str) r4b (y10.1, (false, 0)) r2)
 .ret (.inl (y10.2, v11, r3, r5)))))) .fail) (
 let v12 : Bool := (t8 == 8)
 .br v12 (
 .call (q75_j17 N v12 r0 r1a r1b r2 r3 r4a r4b r4d r4e r5) fun y13 => (
 .alt y13 (fun y14 => (
 .ret (.inr (y14.1, y14.2.1, y14.2.2)))) (fun y15 => (
 .ret (.inl (y15.1, r2, r3, y15.2)))))) (
 let v16 : Bool := (t8 == 9)
 .call (q75_j17 N v16 r0 r1a r1b r2 r3 r4a r4b r4d r4e r5) fun y17 => (
 .alt y17 (fun y18 => (
 .ret (.inr (y18.1, y18.2.1, y18.2.2)))) (fun y19 => (
 .ret (.inl (y19.1, r2, r3, y19.2))))))))))
noncomputable def q75_j4 (N : Nat) (t8 : Int) (t9 : Bool) (r0 : Int) (r1a : Int) (r1b : Int) (r2 : (List (ByteArray × (Bool × (Bool × Int))))) (r3 : (List (ByteArray × Node))) (r4a : Int) (r4b : ByteArray) (r4c : Int) (r4d : Int) (r4e : (List Node)) (r4f : (List ByteArray)) (r5 : (List (ByteArray × (Bool × Bool)))) : Option ((Int × (List (ByteArray × (Bool × (Bool × Int)))) × (List (ByteArray × Node)) × (List (ByteArray × (Bool × Bool)))) ⊕ (Int × Int × Int)) := (q75_j4_T N t8 t9 r0 r1a r1b r2 r3 r4a r4b r4c r4d r4e r4f r5).run some
noncomputable def q75_T (N : Nat) (t1a : Int) (t1b : ByteArray) (t1c : Int) (t1d : Int) (t1e : (List Node)) (t1f : (List ByteArray)) (r0 : Int) (r1a : Int) (r1b : Int) (r2 : (List (ByteArray × (Bool × (Bool × Int))))) (r3 : (List (ByteArray × Node))) (r4 : (List (ByteArray × (Bool × Bool)))) : Tree ((Int × (List (ByteArray × (Bool × (Bool × Int)))) × (List (ByteArray × Node)) × (List (ByteArray × (Bool × Bool)))) ⊕ (Int × Int × Int)) :=
 let v1 : Bool := (t1a == 6)
 .br v1 (
 .call (q75_j4 N t1a v1 r0 r1a r1b r2 r3 t1a t1b t1c t1d t1e t1f r4) fun y2 => (
 .alt y2 (fun y3 => (
 .ret (.inl (y3.1, y3.2.1, y3.2.2.1, y3.2.2.2)))) (fun y4 => (
 .ret (.inr (y4.1, y4.2.1, y4.2.2)))))) (
 let v5 : Bool := (t1a == 7)
 .call (q75_j4 N t1a v5 r0 r1a r1b r2 r3 t1a t1b t1c t1d t1e t1f r4) fun y6 => (
 .alt y6 (fun y7 => (
 .ret (.inl (y7.1, y7.2.1, y7.2.2.1, y7.2.2.2)))) (fun y8 => (
 .ret (.inr (y8.1, y8.2.1, y8.2.2))))))
noncomputable def q75 (N : Nat) (t1a : Int) (t1b : ByteArray) (t1c : Int) (t1d : Int) (t1e : (List Node)) (t1f : (List ByteArray)) (r0 : Int) (r1a : Int) (r1b : Int) (r2 : (List (ByteArray × (Bool × (Bool × Int))))) (r3 : (List (ByteArray × Node))) (r4 : (List (ByteArray × (Bool × Bool)))) : Option ((Int × (List (ByteArray × (Bool × (Bool × Int)))) × (List (ByteArray × Node)) × (List (ByteArray × (Bool × Bool)))) ⊕ (Int × Int × Int)) := (q75_T N t1a t1b t1c t1d t1e t1f r0 r1a r1b r2 r3 r4).run some
/-! ### (*bauta/flow.flow).stmts -/
noncomputable def q76_l1_T (N : Nat) (t6 : (List Node)) (t7 : Int) (r0 : Int) (r1a : Int) (t8 : Int) (r1b : Int) (r2 : (List (ByteArray × (Bool × (Bool × Int))))) (r3 : (List (ByteArray × Node))) (r4 : (List (ByteArray × (Bool × Bool)))) : Tree ((Int × Int × (List (ByteArray × (Bool × (Bool × Int)))) × (List (ByteArray × Node)) × (List (ByteArray × (Bool × Bool)))) ⊕ ((Int × Int × Int × (List (ByteArray × (Bool × (Bool × Int)))) × (List (ByteArray × Node)) × (List (ByteArray × (Bool × Bool)))) ⊕ (Int × (List (ByteArray × (Bool × (Bool × Int)))) × (List (ByteArray × Node)) × (List (ByteArray × (Bool × Bool)))))) :=
 let v1 : Bool := (ltI t8 t7)
 .br v1 (
 .br (inRange t8 t6.length) (
 let v2 : Node := (t6.getD t8.toNat (Node.mk 0 ByteArray.empty 0 0 [] []))
 .call (q75 N (Node.k v2) (Node.s v2) (Node.n v2) (Node.a v2) (Node.l v2) (Node.p v2) r0 r1a r1b r2 r3 r4) fun y3 => (
 .alt y3 (fun y4 => (
 let v6 : Int := (IntKind.i64.wrap (t8 + 1))
 .ret (.inl (v6, y4.1, y4.2.1, y4.2.2.1, y4.2.2.2)))) (fun y5 => (
 .ret (.inr (.inl (y5.1, y5.2.1, y5.2.2, r2, r3, r4))))))) .fail) (
 .ret (.inr (.inr (r1b, r2, r3, r4))))
noncomputable def q76_l1 (N : Nat) (t6 : (List Node)) (t7 : Int) (r0 : Int) (r1a : Int) (v : (Int × Int × (List (ByteArray × (Bool × (Bool × Int)))) × (List (ByteArray × Node)) × (List (ByteArray × (Bool × Bool))))) : Option ((Int × Int × Int × (List (ByteArray × (Bool × (Bool × Int)))) × (List (ByteArray × Node)) × (List (ByteArray × (Bool × Bool)))) ⊕ (Int × (List (ByteArray × (Bool × (Bool × Int)))) × (List (ByteArray × Node)) × (List (ByteArray × (Bool × Bool))))) := loopN (fun v => q76_l1_T N t6 t7 r0 r1a v.1 v.2.1 v.2.2.1 v.2.2.2.1 v.2.2.2.2) N v
noncomputable def q76_T (N : Nat) (t1 : (List Node)) (r0 : Int) (r1a : Int) (r1b : Int) (r2 : (List (ByteArray × (Bool × (Bool × Int))))) (r3 : (List (ByteArray × Node))) (r4 : (List (ByteArray × (Bool × Bool)))) : Tree ((Int × Int × Int × (List (ByteArray × (Bool × (Bool × Int)))) × (List (ByteArray × Node)) × (List (ByteArray × (Bool × Bool)))) ⊕ (Int × (List (ByteArray × (Bool × (Bool × Int)))) × (List (ByteArray × Node)) × (List (ByteArray × (Bool × Bool))))) :=
 let v1 : Int := (t1.length : Int)
 .call (q76_l1 N t1 v1 r0 r1a (0, r1b, r2, r3, r4)) fun y2 => (
 .alt y2 (fun y3 => (
 .ret (.inl (y3.1, y3.2.1, y3.2.2.1, y3.2.2.2.1, y3.2.2.2.2.1, y3.2.2.2.2.2)))) (fun y4 => (
 .ret (.inr (y4.1, y4.2.1, y4.2.2.1, y4.2.2.2)))))
noncomputable def q76 (N : Nat) (t1 : (List Node)) (r0 : Int) (r1a : Int) (r1b : Int) (r2 : (List (ByteArray × (Bool × (Bool × Int))))) (r3 : (List (ByteArray × Node))) (r4 : (List (ByteArray × (Bool × Bool)))) : Option ((Int × Int × Int × (List (ByteArray × (Bool × (Bool × Int)))) × (List (ByteArray × Node)) × (List (ByteArray × (Bool × Bool)))) ⊕ (Int × (List (ByteArray × (Bool × (Bool × Int)))) × (List (ByteArray × Node)) × (List (ByteArray × (Bool × Bool))))) := (q76_T N t1 r0 r1a r1b r2 r3 r4).run some
/-! ### bauta/flow.check -/
noncomputable def q77_T (N : Nat) (t0e : (List Node)) : Tree (Int × Int × (List (ByteArray × (Bool × Bool)))) :=
 .call (q76 N t0e 0 0 0 [] [] []) fun y1 => (
 .alt y1 (fun y2 => (
 .ret (y2.1, y2.2.1, []))) (fun y3 => (
 .ret (0, 0, y3.2.2.2))))
noncomputable def q77 (N : Nat) (t0e : (List Node)) : Option (Int × Int × (List (ByteArray × (Bool × Bool)))) := (q77_T N t0e).run some
/-! ### bauta/flow.Program -/
noncomputable def q78_T (N : Nat) (t0 : ByteArray) : Tree ((Int × Int × (List ByteArray) × (List ByteArray) × (List (ByteArray × (Bool × Bool)))) ⊕ (Int × (List Node) × (List ByteArray) × (List ByteArray) × (List (ByteArray × (Bool × Bool))))) :=
 .call (q72 N t0) fun y1 => (
 .alt y1 (fun y2 => (
 let v4 : Bool := (y2.2.1 != 0)
 .br v4 (
 .ret (.inl (y2.1, y2.2.1, [], [], []))) (
 .call (q77 N []) fun y5 => (
 let v6 : Bool := (y5.2.1 != 0)
 .br v6 (
 .ret (.inl (y5.1, y5.2.1, [], [], []))) (
 .ret (.inl (0, 0, y2.2.2.1, y2.2.2.2.1, y5.2.2))))))) (fun y3 => (
 .call (q77 N y3.2.1) fun y7 => (
 let v8 : Bool := (y7.2.1 != 0)
 .br v8 (
 .ret (.inl (y7.1, y7.2.1, [], [], []))) (
 .ret (.inr (y3.1, y3.2.1, y3.2.2.1, y3.2.2.2.1, y7.2.2)))))))
noncomputable def q78 (N : Nat) (t0 : ByteArray) : Option ((Int × Int × (List ByteArray) × (List ByteArray) × (List (ByteArray × (Bool × Bool)))) ⊕ (Int × (List Node) × (List ByteArray) × (List ByteArray) × (List (ByteArray × (Bool × Bool))))) := (q78_T N t0).run some
/-! ### (*bauta/circ.builder).add -/
noncomputable def q79_j8_T (N : Nat) (r6a : Int) (r6b : Int) (r6c : Int) (r6d : Int) (r6e : Bool) (r7 : (List (Int × (Int × (Int × (Int × Bool)))))) : Tree (Int × (List (Int × (Int × (Int × (Int × Bool)))))) :=
 .br (ltI (((r7.length : Int) + 1) * 32) 140737488355328) (
 let v1 : (List (Int × (Int × (Int × (Int × Bool))))) := (r7 ++ [(r6a, (r6b, (r6c, (r6d, r6e))))])
 let v2 : Int := (v1.length : Int)
 let v3 : Int := (IntKind.i64.wrap (v2 - 1))
 .ret (v3, v1)) .fail
noncomputable def q79_j8 (N : Nat) (r6a : Int) (r6b : Int) (r6c : Int) (r6d : Int) (r6e : Bool) (r7 : (List (Int × (Int × (Int × (Int × Bool)))))) : Option (Int × (List (Int × (Int × (Int × (Int × Bool)))))) := (q79_j8_T N r6a r6b r6c r6d r6e r7).run some
noncomputable def q79_j6_T (N : Nat) (r6a : Int) (r6b : Int) (r6c : Int) (r6d : Int) (r6e : Bool) (r7 : (List (Int × (Int × (Int × (Int × Bool)))))) : Tree (Int × (List (Int × (Int × (Int × (Int × Bool)))))) :=
 .call (circ_takes N r6a) fun y1 => (
 let v2 : Bool := (ltI 1 y1)
 .br v2 (
 .br r6e (
 .call (q79_j8 N r6a r6b r6c r6d true r7) fun y3 => (
 .ret (y3.1, y3.2))) (
 .br (inRange r6c r7.length) (
 let v4 : (Int × (Int × (Int × (Int × Bool)))) := (r7.getD r6c.toNat (0, (0, (0, (0, false)))))
 .call (q79_j8 N r6a r6b r6c r6d v4.2.2.2.2 r7) fun y5 => (
 .ret (y5.1, y5.2))) .fail)) (
 .call (q79_j8 N r6a r6b r6c r6d r6e r7) fun y6 => (
 .ret (y6.1, y6.2))))
noncomputable def q79_j6 (N : Nat) (r6a : Int) (r6b : Int) (r6c : Int) (r6d : Int) (r6e : Bool) (r7 : (List (Int × (Int × (Int × (Int × Bool)))))) : Option (Int × (List (Int × (Int × (Int × (Int × Bool)))))) := (q79_j6_T N r6a r6b r6c r6d r6e r7).run some
noncomputable def q79_j3_T (N : Nat) (r6a : Int) (r6b : Int) (r6c : Int) (r6d : Int) (r7 : (List (Int × (Int × (Int × (Int × Bool)))))) : Tree (Int × (List (Int × (Int × (Int × (Int × Bool)))))) :=
 let v1 : Bool := (r6a == 1)
 .call (circ_takes N r6a) fun y2 => (
 let v3 : Bool := (ltI 0 y2)
 .br v3 (
 .br (inRange r6b r7.length) (
 let v4 : (Int × (Int × (Int × (Int × Bool)))) := (r7.getD r6b.toNat (0, (0, (0, (0, false)))))
 .call (q79_j6 N r6a r6b r6c r6d v4.2.2.2.2 r7) fun y5 => (
 .ret (y5.1, y5.2))) .fail) (
 .call (q79_j6 N r6a r6b r6c r6d v1 r7) fun y6 => (
 .ret (y6.1, y6.2))))
noncomputable def q79_j3 (N : Nat) (r6a : Int) (r6b : Int) (r6c : Int) (r6d : Int) (r7 : (List (Int × (Int × (Int × (Int × Bool)))))) : Option (Int × (List (Int × (Int × (Int × (Int × Bool)))))) := (q79_j3_T N r6a r6b r6c r6d r7).run some
noncomputable def q79_T (N : Nat) (t1a : Int) (t1b : Int) (t1c : Int) (t1d : Int) (r6 : (List (Int × (Int × (Int × (Int × Bool)))))) : Tree (Unit ⊕ (Int × (List (Int × (Int × (Int × (Int × Bool))))))) :=
 let v1 : Int := (r6.length : Int)
 let v2 : Bool := (v1 == 1000)
 .br v2 (
 .ret (.inl ())) (
 .call (q79_j3 N t1a t1b t1c t1d r6) fun y3 => (
 .ret (.inr (y3.1, y3.2))))
noncomputable def q79 (N : Nat) (t1a : Int) (t1b : Int) (t1c : Int) (t1d : Int) (r6 : (List (Int × (Int × (Int × (Int × Bool)))))) : Option (Unit ⊕ (Int × (List (Int × (Int × (Int × (Int × Bool))))))) := (q79_T N t1a t1b t1c t1d r6).run some
/-! ### (*bauta/circ.builder).inputs -/
noncomputable def q80_l2_T (N : Nat) (t2 : Int) (t11 : (List ByteArray)) (t12 : Int) (t13 : Int) (r1a : Int) (r2 : (List (ByteArray × Int))) (r5 : (List (Int × (Int × (Int × (Int × Bool)))))) : Tree ((Int × Int × (List (ByteArray × Int)) × (List (Int × (Int × (Int × (Int × Bool)))))) ⊕ ((Int × (List (ByteArray × Int)) × (List (Int × (Int × (Int × (Int × Bool)))))) ⊕ (Int × (List (ByteArray × Int)) × (List (Int × (Int × (Int × (Int × Bool)))))))) :=
 let v1 : Bool := (ltI t13 t12)
 .br v1 (
 .br (inRange t13 t11.length) (
 let v2 : ByteArray := (t11.getD t13.toNat ByteArray.empty)
 let v3 : Int := (IntKind.u32.wrap r1a)
 .call (q79 N t2 0 0 v3 r5) fun y4 => (
 .alt y4 (fun y5 => (
 .ret (.inr (.inl (r1a, r2, r5))))) (fun y6 => (
 let v7 : (List (ByteArray × Int)) := (setE (eqE .str) v2 y6.1 r2)
 let v8 : Int := (IntKind.i64.wrap (r1a + 1))
 let v9 : Int := (IntKind.i64.wrap (t13 + 1))
 .ret (.inl (v9, v8, v7, y6.2)))))) .fail) (
 .ret (.inr (.inr (r1a, r2, r5))))
noncomputable def q80_l2 (N : Nat) (t2 : Int) (t11 : (List ByteArray)) (t12 : Int) (v : (Int × Int × (List (ByteArray × Int)) × (List (Int × (Int × (Int × (Int × Bool))))))) : Option ((Int × (List (ByteArray × Int)) × (List (Int × (Int × (Int × (Int × Bool)))))) ⊕ (Int × (List (ByteArray × Int)) × (List (Int × (Int × (Int × (Int × Bool))))))) := loopN (fun v => q80_l2_T N t2 t11 t12 v.1 v.2.1 v.2.2.1 v.2.2.2) N v
noncomputable def q80_T (N : Nat) (t1f : (List ByteArray)) (t2 : Int) (r1a : Int) (r2 : (List (ByteArray × Int))) (r6 : (List (Int × (Int × (Int × (Int × Bool)))))) : Tree ((Int × (List (ByteArray × Int)) × (List (Int × (Int × (Int × (Int × Bool)))))) ⊕ (Int × (List (ByteArray × Int)) × (List (Int × (Int × (Int × (Int × Bool))))))) :=
 let v1 : Int := (t1f.length : Int)
 .call (q80_l2 N t2 t1f v1 (0, r1a, r2, r6)) fun y2 => (
 .alt y2 (fun y3 => (
 .ret (.inl (y3.1, y3.2.1, y3.2.2)))) (fun y4 => (
 .ret (.inr (y4.1, y4.2.1, y4.2.2)))))
noncomputable def q80 (N : Nat) (t1f : (List ByteArray)) (t2 : Int) (r1a : Int) (r2 : (List (ByteArray × Int))) (r6 : (List (Int × (Int × (Int × (Int × Bool)))))) : Option ((Int × (List (ByteArray × Int)) × (List (Int × (Int × (Int × (Int × Bool)))))) ⊕ (Int × (List (ByteArray × Int)) × (List (Int × (Int × (Int × (Int × Bool))))))) := (q80_T N t1f t2 r1a r2 r6).run some
/-! ### (*bauta/circ.builder).inputs -/
noncomputable def q81_l2_T (N : Nat) (t2 : Int) (t11 : (List ByteArray)) (t12 : Int) (t13 : Int) (r1b : Int) (r2 : (List (ByteArray × Int))) (r5 : (List (Int × (Int × (Int × (Int × Bool)))))) : Tree ((Int × Int × (List (ByteArray × Int)) × (List (Int × (Int × (Int × (Int × Bool)))))) ⊕ ((Int × (List (ByteArray × Int)) × (List (Int × (Int × (Int × (Int × Bool)))))) ⊕ (Int × (List (ByteArray × Int)) × (List (Int × (Int × (Int × (Int × Bool)))))))) :=
 let v1 : Bool := (ltI t13 t12)
 .br v1 (
 .br (inRange t13 t11.length) (
 let v2 : ByteArray := (t11.getD t13.toNat ByteArray.empty)
 let v3 : Int := (IntKind.u32.wrap r1b)
 .call (q79 N t2 0 0 v3 r5) fun y4 => (
 .alt y4 (fun y5 => (
 .ret (.inr (.inl (r1b, r2, r5))))) (fun y6 => (
 let v7 : (List (ByteArray × Int)) := (setE (eqE .str) v2 y6.1 r2)
 let v8 : Int := (IntKind.i64.wrap (r1b + 1))
 let v9 : Int := (IntKind.i64.wrap (t13 + 1))
 .ret (.inl (v9, v8, v7, y6.2)))))) .fail) (
 .ret (.inr (.inr (r1b, r2, r5))))
noncomputable def q81_l2 (N : Nat) (t2 : Int) (t11 : (List ByteArray)) (t12 : Int) (v : (Int × Int × (List (ByteArray × Int)) × (List (Int × (Int × (Int × (Int × Bool))))))) : Option ((Int × (List (ByteArray × Int)) × (List (Int × (Int × (Int × (Int × Bool)))))) ⊕ (Int × (List (ByteArray × Int)) × (List (Int × (Int × (Int × (Int × Bool))))))) := loopN (fun v => q81_l2_T N t2 t11 t12 v.1 v.2.1 v.2.2.1 v.2.2.2) N v
noncomputable def q81_T (N : Nat) (t1f : (List ByteArray)) (t2 : Int) (r1b : Int) (r2 : (List (ByteArray × Int))) (r6 : (List (Int × (Int × (Int × (Int × Bool)))))) : Tree ((Int × (List (ByteArray × Int)) × (List (Int × (Int × (Int × (Int × Bool)))))) ⊕ (Int × (List (ByteArray × Int)) × (List (Int × (Int × (Int × (Int × Bool))))))) :=
 let v1 : Int := (t1f.length : Int)
 .call (q81_l2 N t2 t1f v1 (0, r1b, r2, r6)) fun y2 => (
 .alt y2 (fun y3 => (
 .ret (.inl (y3.1, y3.2.1, y3.2.2)))) (fun y4 => (
 .ret (.inr (y4.1, y4.2.1, y4.2.2)))))
noncomputable def q81 (N : Nat) (t1f : (List ByteArray)) (t2 : Int) (r1b : Int) (r2 : (List (ByteArray × Int))) (r6 : (List (Int × (Int × (Int × (Int × Bool)))))) : Option ((Int × (List (ByteArray × Int)) × (List (Int × (Int × (Int × (Int × Bool)))))) ⊕ (Int × (List (ByteArray × Int)) × (List (Int × (Int × (Int × (Int × Bool))))))) := (q81_T N t1f t2 r1b r2 r6).run some
/-! ### bauta/circ.sign -/
noncomputable def q82_T (N : Nat) (t0 : ByteArray) : Tree Int :=
 let v1 : Bool := (t0.toList == (⟨#[43]⟩ : ByteArray).toList)
 .br v1 (
 .ret 10) (
 let v2 : Bool := (t0.toList == (⟨#[45]⟩ : ByteArray).toList)
 .br v2 (
 .ret 11) (
 let v3 : Bool := (t0.toList == (⟨#[38]⟩ : ByteArray).toList)
 .br v3 (
 .ret 3) (
 let v4 : Bool := (t0.toList == (⟨#[124]⟩ : ByteArray).toList)
 .br v4 (
 .ret 9) (
 let v5 : Bool := (t0.toList == (⟨#[94]⟩ : ByteArray).toList)
 .br v5 (
 .ret 4) (
 let v6 : Bool := (t0.toList == (⟨#[60, 60]⟩ : ByteArray).toList)
 .br v6 (
 .ret 6) (
 let v7 : Bool := (t0.toList == (⟨#[62, 62]⟩ : ByteArray).toList)
 .br v7 (
 .ret 7) (
 .ret 8)))))))
noncomputable def q82 (N : Nat) (t0 : ByteArray) : Option Int := (q82_T N t0).run some
/-! ### (*bauta/circ.builder).add -/
noncomputable def q83_j8_T (N : Nat) (r5a : Int) (r5b : Int) (r5c : Int) (r5d : Int) (r5e : Bool) (r6 : (List (Int × (Int × (Int × (Int × Bool)))))) : Tree (Int × (List (Int × (Int × (Int × (Int × Bool)))))) :=
 .br (ltI (((r6.length : Int) + 1) * 32) 140737488355328) (
 let v1 : (List (Int × (Int × (Int × (Int × Bool))))) := (r6 ++ [(r5a, (r5b, (r5c, (r5d, r5e))))])
 let v2 : Int := (v1.length : Int)
 let v3 : Int := (IntKind.i64.wrap (v2 - 1))
 .ret (v3, v1)) .fail
noncomputable def q83_j8 (N : Nat) (r5a : Int) (r5b : Int) (r5c : Int) (r5d : Int) (r5e : Bool) (r6 : (List (Int × (Int × (Int × (Int × Bool)))))) : Option (Int × (List (Int × (Int × (Int × (Int × Bool)))))) := (q83_j8_T N r5a r5b r5c r5d r5e r6).run some
noncomputable def q83_j6_T (N : Nat) (r5a : Int) (r5b : Int) (r5c : Int) (r5d : Int) (r5e : Bool) (r6 : (List (Int × (Int × (Int × (Int × Bool)))))) : Tree (Int × (List (Int × (Int × (Int × (Int × Bool)))))) :=
 .call (circ_takes N r5a) fun y1 => (
 let v2 : Bool := (ltI 1 y1)
 .br v2 (
 .br r5e (
 .call (q83_j8 N r5a r5b r5c r5d true r6) fun y3 => (
 .ret (y3.1, y3.2))) (
 .br (inRange r5c r6.length) (
 let v4 : (Int × (Int × (Int × (Int × Bool)))) := (r6.getD r5c.toNat (0, (0, (0, (0, false)))))
 .call (q83_j8 N r5a r5b r5c r5d v4.2.2.2.2 r6) fun y5 => (
 .ret (y5.1, y5.2))) .fail)) (
 .call (q83_j8 N r5a r5b r5c r5d r5e r6) fun y6 => (
 .ret (y6.1, y6.2))))
noncomputable def q83_j6 (N : Nat) (r5a : Int) (r5b : Int) (r5c : Int) (r5d : Int) (r5e : Bool) (r6 : (List (Int × (Int × (Int × (Int × Bool)))))) : Option (Int × (List (Int × (Int × (Int × (Int × Bool)))))) := (q83_j6_T N r5a r5b r5c r5d r5e r6).run some
noncomputable def q83_j3_T (N : Nat) (r5a : Int) (r5b : Int) (r5c : Int) (r5d : Int) (r6 : (List (Int × (Int × (Int × (Int × Bool)))))) : Tree (Int × (List (Int × (Int × (Int × (Int × Bool)))))) :=
 let v1 : Bool := (r5a == 1)
 .call (circ_takes N r5a) fun y2 => (
 let v3 : Bool := (ltI 0 y2)
 .br v3 (
 .br (inRange r5b r6.length) (
 let v4 : (Int × (Int × (Int × (Int × Bool)))) := (r6.getD r5b.toNat (0, (0, (0, (0, false)))))
 .call (q83_j6 N r5a r5b r5c r5d v4.2.2.2.2 r6) fun y5 => (
 .ret (y5.1, y5.2))) .fail) (
 .call (q83_j6 N r5a r5b r5c r5d v1 r6) fun y6 => (
 .ret (y6.1, y6.2))))
noncomputable def q83_j3 (N : Nat) (r5a : Int) (r5b : Int) (r5c : Int) (r5d : Int) (r6 : (List (Int × (Int × (Int × (Int × Bool)))))) : Option (Int × (List (Int × (Int × (Int × (Int × Bool)))))) := (q83_j3_T N r5a r5b r5c r5d r6).run some
noncomputable def q83_T (N : Nat) (t1a : Int) (t1b : Int) (t1c : Int) (t1d : Int) (r5 : (List (Int × (Int × (Int × (Int × Bool)))))) : Tree (Unit ⊕ (Int × (List (Int × (Int × (Int × (Int × Bool))))))) :=
 let v1 : Int := (r5.length : Int)
 let v2 : Bool := (v1 == 1000)
 .br v2 (
 .ret (.inl ())) (
 .call (q83_j3 N t1a t1b t1c t1d r5) fun y3 => (
 .ret (.inr (y3.1, y3.2))))
noncomputable def q83 (N : Nat) (t1a : Int) (t1b : Int) (t1c : Int) (t1d : Int) (r5 : (List (Int × (Int × (Int × (Int × Bool)))))) : Option (Unit ⊕ (Int × (List (Int × (Int × (Int × (Int × Bool))))))) := (q83_T N t1a t1b t1c t1d r5).run some
/-! ### (*bauta/circ.builder).expr -/
noncomputable def q6_j13_T (N : Nat) (q6_r : Int → ByteArray → Int → Int → (List Node) → (List ByteArray) → Int → Int → Int → (List (ByteArray × Int)) → (List (ByteArray × Node)) → (List (ByteArray × Int)) → (List (Int × (Int × (Int × (Int × Bool))))) → Option ((Int × (List (Int × (Int × (Int × (Int × Bool)))))) ⊕ (List (Int × (Int × (Int × (Int × Bool))))))) (t59 : Bool) (r0 : Int) (r1a : Int) (r1b : Int) (r2 : (List (ByteArray × Int))) (r3 : (List (ByteArray × Node))) (r4 : (List (ByteArray × Int))) (r5e : (List Node)) (r7 : (List (Int × (Int × (Int × (Int × Bool)))))) : Tree ((List (Int × (Int × (Int × (Int × Bool))))) ⊕ Unit) :=
 .br t59 (
 .br (inRange 0 r5e.length) (
 let v1 : Node := (r5e.getD 0 (Node.mk 0 ByteArray.empty 0 0 [] []))
 .call (q6_r (Node.k v1) (Node.s v1) (Node.n v1) (Node.a v1) (Node.l v1) (Node.p v1) r0 r1a r1b r2 r3 r4 r7) fun y2 => (
 .alt y2 (fun y3 => (
 .fail)) (fun y4 => (
 .ret (.inl y4))))) .fail) (
 .ret (.inr ()))
noncomputable def q6_j13 (N : Nat) (q6_r : Int → ByteArray → Int → Int → (List Node) → (List ByteArray) → Int → Int → Int → (List (ByteArray × Int)) → (List (ByteArray × Node)) → (List (ByteArray × Int)) → (List (Int × (Int × (Int × (Int × Bool))))) → Option ((Int × (List (Int × (Int × (Int × (Int × Bool)))))) ⊕ (List (Int × (Int × (Int × (Int × Bool))))))) (t59 : Bool) (r0 : Int) (r1a : Int) (r1b : Int) (r2 : (List (ByteArray × Int))) (r3 : (List (ByteArray × Node))) (r4 : (List (ByteArray × Int))) (r5e : (List Node)) (r7 : (List (Int × (Int × (Int × (Int × Bool)))))) : Option ((List (Int × (Int × (Int × (Int × Bool))))) ⊕ Unit) := (q6_j13_T N q6_r t59 r0 r1a r1b r2 r3 r4 r5e r7).run some
noncomputable def q6_l16_T (N : Nat) (q6_r : Int → ByteArray → Int → Int → (List Node) → (List ByteArray) → Int → Int → Int → (List (ByteArray × Int)) → (List (ByteArray × Node)) → (List (ByteArray × Int)) → (List (Int × (Int × (Int × (Int × Bool))))) → Option ((Int × (List (Int × (Int × (Int × (Int × Bool)))))) ⊕ (List (Int × (Int × (Int × (Int × Bool))))))) (t72 : (List Node)) (t73 : Int) (r0 : Int) (r1a : Int) (r1b : Int) (r2 : (List (ByteArray × Int))) (r3 : (List (ByteArray × Node))) (r4 : (List (ByteArray × Int))) (t74 : Int) (r6 : (List Int)) (r7 : (List (Int × (Int × (Int × (Int × Bool)))))) : Tree ((Int × (List Int) × (List (Int × (Int × (Int × (Int × Bool)))))) ⊕ ((List (Int × (Int × (Int × (Int × Bool))))) ⊕ ((List Int) × (List (Int × (Int × (Int × (Int × Bool)))))))) :=
 let v1 : Bool := (ltI t74 t73)
 .br v1 (
 .br (inRange t74 t72.length) (
 let v2 : Node := (t72.getD t74.toNat (Node.mk 0 ByteArray.empty 0 0 [] []))
 .call (q6_r (Node.k v2) (Node.s v2) (Node.n v2) (Node.a v2) (Node.l v2) (Node.p v2) r0 r1a r1b r2 r3 r4 r7) fun y3 => (
 .alt y3 (fun y4 => (
 .br (ltI (((r6.length : Int) + 1) * 8) 140737488355328) (
 let v6 : (List Int) := (r6 ++ [y4.1])
 let v7 : Int := (IntKind.i64.wrap (t74 + 1))
 .ret (.inl (v7, v6, y4.2))) .fail)) (fun y5 => (
 .ret (.inr (.inl y5)))))) .fail) (
 .ret (.inr (.inr (r6, r7))))
noncomputable def q6_l16 (N : Nat) (q6_r : Int → ByteArray → Int → Int → (List Node) → (List ByteArray) → Int → Int → Int → (List (ByteArray × Int)) → (List (ByteArray × Node)) → (List (ByteArray × Int)) → (List (Int × (Int × (Int × (Int × Bool))))) → Option ((Int × (List (Int × (Int × (Int × (Int × Bool)))))) ⊕ (List (Int × (Int × (Int × (Int × Bool))))))) (t72 : (List Node)) (t73 : Int) (r0 : Int) (r1a : Int) (r1b : Int) (r2 : (List (ByteArray × Int))) (r3 : (List (ByteArray × Node))) (r4 : (List (ByteArray × Int))) (v : (Int × (List Int) × (List (Int × (Int × (Int × (Int × Bool))))))) : Option ((List (Int × (Int × (Int × (Int × Bool))))) ⊕ ((List Int) × (List (Int × (Int × (Int × (Int × Bool))))))) := loopN (fun v => q6_l16_T N q6_r t72 t73 r0 r1a r1b r2 r3 r4 v.1 v.2.1 v.2.2) N v
noncomputable def q6_l31_T (N : Nat) (q6_r : Int → ByteArray → Int → Int → (List Node) → (List ByteArray) → Int → Int → Int → (List (ByteArray × Int)) → (List (ByteArray × Node)) → (List (ByteArray × Int)) → (List (Int × (Int × (Int × (Int × Bool))))) → Option ((Int × (List (Int × (Int × (Int × (Int × Bool)))))) ⊕ (List (Int × (Int × (Int × (Int × Bool))))))) (t153 : (List ByteArray)) (t154 : Int) (r5 : (List Int)) (t155 : Int) (r9 : (List (ByteArray × Int))) : Tree ((Int × (List (ByteArray × Int))) ⊕ (List (ByteArray × Int))) :=
 let v1 : Bool := (ltI t155 t154)
 .br v1 (
 .br (inRange t155 t153.length) (
 let v2 : ByteArray := (t153.getD t155.toNat ByteArray.empty)
 .br (inRange t155 r5.length) (
 let v3 : Int := (r5.getD t155.toNat 0)
 let v4 : (List (ByteArray × Int)) := (setE (eqE .str) v2 v3 r9)
 let v5 : Int := (IntKind.i64.wrap (t155 + 1))
 .ret (.inl (v5, v4))) .fail) .fail) (
 .ret (.inr r9))
noncomputable def q6_l31 (N : Nat) (q6_r : Int → ByteArray → Int → Int → (List Node) → (List ByteArray) → Int → Int → Int → (List (ByteArray × Int)) → (List (ByteArray × Node)) → (List (ByteArray × Int)) → (List (Int × (Int × (Int × (Int × Bool))))) → Option ((Int × (List (Int × (Int × (Int × (Int × Bool)))))) ⊕ (List (Int × (Int × (Int × (Int × Bool))))))) (t153 : (List ByteArray)) (t154 : Int) (r5 : (List Int)) (v : (Int × (List (ByteArray × Int)))) : Option (List (ByteArray × Int)) := loopN (fun v => q6_l31_T N q6_r t153 t154 r5 v.1 v.2) N v
noncomputable def q6_j15_T (N : Nat) (q6_r : Int → ByteArray → Int → Int → (List Node) → (List ByteArray) → Int → Int → Int → (List (ByteArray × Int)) → (List (ByteArray × Node)) → (List (ByteArray × Int)) → (List (Int × (Int × (Int × (Int × Bool))))) → Option ((Int × (List (Int × (Int × (Int × (Int × Bool)))))) ⊕ (List (Int × (Int × (Int × (Int × Bool))))))) (r0 : Int) (r1a : Int) (r1b : Int) (r2 : (List (ByteArray × Int))) (r3 : (List (ByteArray × Node))) (r4 : (List (ByteArray × Int))) (r5a : Int) (r5b : ByteArray) (r5e : (List Node)) (r6 : (List Int)) (r7 : (List (Int × (Int × (Int × (Int × Bool)))))) : Tree ((List (Int × (Int × (Int × (Int × Bool))))) ⊕ (Int × (List (Int × (Int × (Int × (Int × Bool))))))) :=
 let v1 : Int := (r5e.length : Int)
 .call (q6_l16 N q6_r r5e v1 r0 r1a r1b r2 r3 r4 (0, r6, r7)) fun y2 => (
 .alt y2 (fun y3 => (
 .ret (.inl y3))) (fun y4 => (
 let v5 : Bool := (r5a == 2)
 .br v5 (
 .br (inRange 0 y4.1.length) (
 let v6 : Int := (y4.1.getD 0 0)
 .call (q83 N 5 v6 0 0 y4.2) fun y7 => (
 .alt y7 (fun y8 => (
 .ret (.inl y4.2))) (fun y9 => (
 .ret (.inr (y9.1, y9.2)))))) .fail) (
 let v10 : Bool := (r5a == 3)
 .br v10 (
 .call (q82 N r5b) fun y11 => (
 .br (inRange 0 y4.1.length) (
 .br (inRange 1 y4.1.length) (
 .fail) .fail) .fail)) (
 let v14 : Bool := (r5b.toList == (⟨#[115, 101, 108]⟩ : ByteArray).toList)
 .br v14 (
 .br (inRange 1 y4.1.length) (
 .br (inRange 2 y4.1.length) (
 .fail) .fail) .fail) (
 let v17 : Node := (getE (eqE .str) r5b (Node.mk 0 ByteArray.empty 0 0 [] []) r3)
 let v18 : Int := ((Node.p v17).length : Int)
 .call (q6_l31 N q6_r (Node.p v17) v18 y4.1 (0, [])) fun y19 => (
 .br (inRange 0 ((Node.l v17).length)) (
 let v20 : Node := ((Node.l v17).getD 0 (Node.mk 0 ByteArray.empty 0 0 [] []))
 .call (q6_r (Node.k v20) (Node.s v20) (Node.n v20) (Node.a v20) (Node.l v20) (Node.p v20) r0 r1a r1b y19 r3 r4 y4.2) fun y21 => (
 .alt y21 (fun y22 => (
 .ret (.inr (y22.1, y22.2)))) (fun y23 => (
 .ret (.inl y23))))) .fail)))))))
noncomputable def q6_j15 (N : Nat) (q6_r : Int → ByteArray → Int → Int → (List Node) → (List ByteArray) → Int → Int → Int → (List (ByteArray × Int)) → (List (ByteArray × Node)) → (List (ByteArray × Int)) → (List (Int × (Int × (Int × (Int × Bool))))) → Option ((Int × (List (Int × (Int × (Int × (Int × Bool)))))) ⊕ (List (Int × (Int × (Int × (Int × Bool))))))) (r0 : Int) (r1a : Int) (r1b : Int) (r2 : (List (ByteArray × Int))) (r3 : (List (ByteArray × Node))) (r4 : (List (ByteArray × Int))) (r5a : Int) (r5b : ByteArray) (r5e : (List Node)) (r6 : (List Int)) (r7 : (List (Int × (Int × (Int × (Int × Bool)))))) : Option ((List (Int × (Int × (Int × (Int × Bool))))) ⊕ (Int × (List (Int × (Int × (Int × (Int × Bool))))))) := (q6_j15_T N q6_r r0 r1a r1b r2 r3 r4 r5a r5b r5e r6 r7).run some
noncomputable def q6_T (N : Nat) (q6_r : Int → ByteArray → Int → Int → (List Node) → (List ByteArray) → Int → Int → Int → (List (ByteArray × Int)) → (List (ByteArray × Node)) → (List (ByteArray × Int)) → (List (Int × (Int × (Int × (Int × Bool))))) → Option ((Int × (List (Int × (Int × (Int × (Int × Bool)))))) ⊕ (List (Int × (Int × (Int × (Int × Bool))))))) (t1a : Int) (t1b : ByteArray) (t1c : Int) (t1d : Int) (t1e : (List Node)) (t1f : (List ByteArray)) (r0 : Int) (r1a : Int) (r1b : Int) (r2 : (List (ByteArray × Int))) (r3 : (List (ByteArray × Node))) (r4 : (List (ByteArray × Int))) (r5 : (List (Int × (Int × (Int × (Int × Bool)))))) : Tree ((Int × (List (Int × (Int × (Int × (Int × Bool)))))) ⊕ (List (Int × (Int × (Int × (Int × Bool)))))) :=
 let v1 : Bool := (t1a == 0)
 .br v1 (
 .fail) (
 let v2 : Bool := (t1a == 1)
 .br v2 (
 let v3 : Int := (getE (eqE .str) t1b 0 r2)
 .ret (.inl (v3, r5))) (
 let v4 : Bool := (t1a == 4)
 .br v4 (
 .fail) (
 let v5 : Bool := (t1a == 2)
 .br v5 (
 let v6 : Bool := (t1b.toList == (⟨#[45]⟩ : ByteArray).toList)
 .call (q6_j13 N q6_r v6 r0 r1a r1b r2 r3 r4 t1e r5) fun y7 => (
 .alt y7 (fun y8 => (
 .ret (.inr y8))) (fun y9 => (
 .call (q6_j15 N q6_r r0 r1a r1b r2 r3 r4 t1a t1b t1e [] r5) fun y10 => (
 .alt y10 (fun y11 => (
 .ret (.inr y11))) (fun y12 => (
 .ret (.inl (y12.1, y12.2))))))))) (
 .call (q6_j13 N q6_r false r0 r1a r1b r2 r3 r4 t1e r5) fun y13 => (
 .alt y13 (fun y14 => (
 .ret (.inr y14))) (fun y15 => (
 .call (q6_j15 N q6_r r0 r1a r1b r2 r3 r4 t1a t1b t1e [] r5) fun y16 => (
 .alt y16 (fun y17 => (
 .ret (.inr y17))) (fun y18 => (
 .ret (.inl (y18.1, y18.2))))))))))))
noncomputable def q6_R (N : Nat) : Nat → Int → ByteArray → Int → Int → (List Node) → (List ByteArray) → Int → Int → Int → (List (ByteArray × Int)) → (List (ByteArray × Node)) → (List (ByteArray × Int)) → (List (Int × (Int × (Int × (Int × Bool))))) → Option ((Int × (List (Int × (Int × (Int × (Int × Bool)))))) ⊕ (List (Int × (Int × (Int × (Int × Bool))))))
 | 0 => fun _ _ _ _ _ _ _ _ _ _ _ _ _ => none
 | k + 1 => fun t1a t1b t1c t1d t1e t1f r0 r1a r1b r2 r3 r4 r5 => (q6_T N (q6_R N k) t1a t1b t1c t1d t1e t1f r0 r1a r1b r2 r3 r4 r5).run some
noncomputable def q6 (N : Nat) : Int → ByteArray → Int → Int → (List Node) → (List ByteArray) → Int → Int → Int → (List (ByteArray × Int)) → (List (ByteArray × Node)) → (List (ByteArray × Int)) → (List (Int × (Int × (Int × (Int × Bool))))) → Option ((Int × (List (Int × (Int × (Int × (Int × Bool)))))) ⊕ (List (Int × (Int × (Int × (Int × Bool)))))) := q6_R N N
/-! ### (*bauta/circ.builder).expr -/
noncomputable def q7_j13_T (N : Nat) (q7_r : Int → ByteArray → Int → Int → (List Node) → (List ByteArray) → Int → Int → Int → (List (ByteArray × Int)) → (List (ByteArray × Int)) → (List (ByteArray × Node)) → (List (ByteArray × Int)) → (List (Int × (Int × (Int × (Int × Bool))))) → Option ((Int × (List (Int × (Int × (Int × (Int × Bool)))))) ⊕ (List (Int × (Int × (Int × (Int × Bool))))))) (t59 : Bool) (r0 : Int) (r1a : Int) (r1b : Int) (r2 : (List (ByteArray × Int))) (r3 : (List (ByteArray × Int))) (r4 : (List (ByteArray × Node))) (r5 : (List (ByteArray × Int))) (r6e : (List Node)) (r8 : (List (Int × (Int × (Int × (Int × Bool)))))) : Tree ((List (Int × (Int × (Int × (Int × Bool))))) ⊕ Unit) :=
 .br t59 (
 .br (inRange 0 r6e.length) (
 let v1 : Node := (r6e.getD 0 (Node.mk 0 ByteArray.empty 0 0 [] []))
 .call (q7_r (Node.k v1) (Node.s v1) (Node.n v1) (Node.a v1) (Node.l v1) (Node.p v1) r0 r1a r1b r2 r3 r4 r5 r8) fun y2 => (
 .alt y2 (fun y3 => (
 .fail)) (fun y4 => (
 .ret (.inl y4))))) .fail) (
 .ret (.inr ()))
noncomputable def q7_j13 (N : Nat) (q7_r : Int → ByteArray → Int → Int → (List Node) → (List ByteArray) → Int → Int → Int → (List (ByteArray × Int)) → (List (ByteArray × Int)) → (List (ByteArray × Node)) → (List (ByteArray × Int)) → (List (Int × (Int × (Int × (Int × Bool))))) → Option ((Int × (List (Int × (Int × (Int × (Int × Bool)))))) ⊕ (List (Int × (Int × (Int × (Int × Bool))))))) (t59 : Bool) (r0 : Int) (r1a : Int) (r1b : Int) (r2 : (List (ByteArray × Int))) (r3 : (List (ByteArray × Int))) (r4 : (List (ByteArray × Node))) (r5 : (List (ByteArray × Int))) (r6e : (List Node)) (r8 : (List (Int × (Int × (Int × (Int × Bool)))))) : Option ((List (Int × (Int × (Int × (Int × Bool))))) ⊕ Unit) := (q7_j13_T N q7_r t59 r0 r1a r1b r2 r3 r4 r5 r6e r8).run some
noncomputable def q7_l16_T (N : Nat) (q7_r : Int → ByteArray → Int → Int → (List Node) → (List ByteArray) → Int → Int → Int → (List (ByteArray × Int)) → (List (ByteArray × Int)) → (List (ByteArray × Node)) → (List (ByteArray × Int)) → (List (Int × (Int × (Int × (Int × Bool))))) → Option ((Int × (List (Int × (Int × (Int × (Int × Bool)))))) ⊕ (List (Int × (Int × (Int × (Int × Bool))))))) (t72 : (List Node)) (t73 : Int) (r0 : Int) (r1a : Int) (r1b : Int) (r2 : (List (ByteArray × Int))) (r3 : (List (ByteArray × Int))) (r4 : (List (ByteArray × Node))) (r5 : (List (ByteArray × Int))) (t74 : Int) (r7 : (List Int)) (r8 : (List (Int × (Int × (Int × (Int × Bool)))))) : Tree ((Int × (List Int) × (List (Int × (Int × (Int × (Int × Bool)))))) ⊕ ((List (Int × (Int × (Int × (Int × Bool))))) ⊕ ((List Int) × (List (Int × (Int × (Int × (Int × Bool)))))))) :=
 let v1 : Bool := (ltI t74 t73)
 .br v1 (
 .br (inRange t74 t72.length) (
 let v2 : Node := (t72.getD t74.toNat (Node.mk 0 ByteArray.empty 0 0 [] []))
 .call (q7_r (Node.k v2) (Node.s v2) (Node.n v2) (Node.a v2) (Node.l v2) (Node.p v2) r0 r1a r1b r2 r3 r4 r5 r8) fun y3 => (
 .alt y3 (fun y4 => (
 .br (ltI (((r7.length : Int) + 1) * 8) 140737488355328) (
 let v6 : (List Int) := (r7 ++ [y4.1])
 let v7 : Int := (IntKind.i64.wrap (t74 + 1))
 .ret (.inl (v7, v6, y4.2))) .fail)) (fun y5 => (
 .ret (.inr (.inl y5)))))) .fail) (
 .ret (.inr (.inr (r7, r8))))
noncomputable def q7_l16 (N : Nat) (q7_r : Int → ByteArray → Int → Int → (List Node) → (List ByteArray) → Int → Int → Int → (List (ByteArray × Int)) → (List (ByteArray × Int)) → (List (ByteArray × Node)) → (List (ByteArray × Int)) → (List (Int × (Int × (Int × (Int × Bool))))) → Option ((Int × (List (Int × (Int × (Int × (Int × Bool)))))) ⊕ (List (Int × (Int × (Int × (Int × Bool))))))) (t72 : (List Node)) (t73 : Int) (r0 : Int) (r1a : Int) (r1b : Int) (r2 : (List (ByteArray × Int))) (r3 : (List (ByteArray × Int))) (r4 : (List (ByteArray × Node))) (r5 : (List (ByteArray × Int))) (v : (Int × (List Int) × (List (Int × (Int × (Int × (Int × Bool))))))) : Option ((List (Int × (Int × (Int × (Int × Bool))))) ⊕ ((List Int) × (List (Int × (Int × (Int × (Int × Bool))))))) := loopN (fun v => q7_l16_T N q7_r t72 t73 r0 r1a r1b r2 r3 r4 r5 v.1 v.2.1 v.2.2) N v
noncomputable def q7_l31_T (N : Nat) (q7_r : Int → ByteArray → Int → Int → (List Node) → (List ByteArray) → Int → Int → Int → (List (ByteArray × Int)) → (List (ByteArray × Int)) → (List (ByteArray × Node)) → (List (ByteArray × Int)) → (List (Int × (Int × (Int × (Int × Bool))))) → Option ((Int × (List (Int × (Int × (Int × (Int × Bool)))))) ⊕ (List (Int × (Int × (Int × (Int × Bool))))))) (t153 : (List ByteArray)) (t154 : Int) (r6 : (List Int)) (t155 : Int) (r10 : (List (ByteArray × Int))) : Tree ((Int × (List (ByteArray × Int))) ⊕ (List (ByteArray × Int))) :=
 let v1 : Bool := (ltI t155 t154)
 .br v1 (
 .br (inRange t155 t153.length) (
 let v2 : ByteArray := (t153.getD t155.toNat ByteArray.empty)
 .br (inRange t155 r6.length) (
 let v3 : Int := (r6.getD t155.toNat 0)
 let v4 : (List (ByteArray × Int)) := (setE (eqE .str) v2 v3 r10)
 let v5 : Int := (IntKind.i64.wrap (t155 + 1))
 .ret (.inl (v5, v4))) .fail) .fail) (
 .ret (.inr r10))
noncomputable def q7_l31 (N : Nat) (q7_r : Int → ByteArray → Int → Int → (List Node) → (List ByteArray) → Int → Int → Int → (List (ByteArray × Int)) → (List (ByteArray × Int)) → (List (ByteArray × Node)) → (List (ByteArray × Int)) → (List (Int × (Int × (Int × (Int × Bool))))) → Option ((Int × (List (Int × (Int × (Int × (Int × Bool)))))) ⊕ (List (Int × (Int × (Int × (Int × Bool))))))) (t153 : (List ByteArray)) (t154 : Int) (r6 : (List Int)) (v : (Int × (List (ByteArray × Int)))) : Option (List (ByteArray × Int)) := loopN (fun v => q7_l31_T N q7_r t153 t154 r6 v.1 v.2) N v
noncomputable def q7_j15_T (N : Nat) (q7_r : Int → ByteArray → Int → Int → (List Node) → (List ByteArray) → Int → Int → Int → (List (ByteArray × Int)) → (List (ByteArray × Int)) → (List (ByteArray × Node)) → (List (ByteArray × Int)) → (List (Int × (Int × (Int × (Int × Bool))))) → Option ((Int × (List (Int × (Int × (Int × (Int × Bool)))))) ⊕ (List (Int × (Int × (Int × (Int × Bool))))))) (r0 : Int) (r1a : Int) (r1b : Int) (r2 : (List (ByteArray × Int))) (r3 : (List (ByteArray × Int))) (r4 : (List (ByteArray × Node))) (r5 : (List (ByteArray × Int))) (r6a : Int) (r6b : ByteArray) (r6e : (List Node)) (r7 : (List Int)) (r8 : (List (Int × (Int × (Int × (Int × Bool)))))) : Tree ((List (Int × (Int × (Int × (Int × Bool))))) ⊕ (Int × (List (Int × (Int × (Int × (Int × Bool))))))) :=
 let v1 : Int := (r6e.length : Int)
 .call (q7_l16 N q7_r r6e v1 r0 r1a r1b r2 r3 r4 r5 (0, r7, r8)) fun y2 => (
 .alt y2 (fun y3 => (
 .ret (.inl y3))) (fun y4 => (
 let v5 : Bool := (r6a == 2)
 .br v5 (
 .br (inRange 0 y4.1.length) (
 let v6 : Int := (y4.1.getD 0 0)
 .call (q79 N 5 v6 0 0 y4.2) fun y7 => (
 .alt y7 (fun y8 => (
 .ret (.inl y4.2))) (fun y9 => (
 .ret (.inr (y9.1, y9.2)))))) .fail) (
 let v10 : Bool := (r6a == 3)
 .br v10 (
 .call (q82 N r6b) fun y11 => (
 .br (inRange 0 y4.1.length) (
 .br (inRange 1 y4.1.length) (
 .fail) .fail) .fail)) (
 let v14 : Bool := (r6b.toList == (⟨#[115, 101, 108]⟩ : ByteArray).toList)
 .br v14 (
 .br (inRange 1 y4.1.length) (
 .br (inRange 2 y4.1.length) (
 .fail) .fail) .fail) (
 let v17 : Node := (getE (eqE .str) r6b (Node.mk 0 ByteArray.empty 0 0 [] []) r4)
 let v18 : Int := ((Node.p v17).length : Int)
 .call (q7_l31 N q7_r (Node.p v17) v18 y4.1 (0, [])) fun y19 => (
 .br (inRange 0 ((Node.l v17).length)) (
 let v20 : Node := ((Node.l v17).getD 0 (Node.mk 0 ByteArray.empty 0 0 [] []))
 .call (q6 N (Node.k v20) (Node.s v20) (Node.n v20) (Node.a v20) (Node.l v20) (Node.p v20) r0 r1a r1b y19 r4 r5 y4.2) fun y21 => (
 .alt y21 (fun y22 => (
 .ret (.inr (y22.1, y22.2)))) (fun y23 => (
 .ret (.inl y23))))) .fail)))))))
noncomputable def q7_j15 (N : Nat) (q7_r : Int → ByteArray → Int → Int → (List Node) → (List ByteArray) → Int → Int → Int → (List (ByteArray × Int)) → (List (ByteArray × Int)) → (List (ByteArray × Node)) → (List (ByteArray × Int)) → (List (Int × (Int × (Int × (Int × Bool))))) → Option ((Int × (List (Int × (Int × (Int × (Int × Bool)))))) ⊕ (List (Int × (Int × (Int × (Int × Bool))))))) (r0 : Int) (r1a : Int) (r1b : Int) (r2 : (List (ByteArray × Int))) (r3 : (List (ByteArray × Int))) (r4 : (List (ByteArray × Node))) (r5 : (List (ByteArray × Int))) (r6a : Int) (r6b : ByteArray) (r6e : (List Node)) (r7 : (List Int)) (r8 : (List (Int × (Int × (Int × (Int × Bool)))))) : Option ((List (Int × (Int × (Int × (Int × Bool))))) ⊕ (Int × (List (Int × (Int × (Int × (Int × Bool))))))) := (q7_j15_T N q7_r r0 r1a r1b r2 r3 r4 r5 r6a r6b r6e r7 r8).run some
noncomputable def q7_T (N : Nat) (q7_r : Int → ByteArray → Int → Int → (List Node) → (List ByteArray) → Int → Int → Int → (List (ByteArray × Int)) → (List (ByteArray × Int)) → (List (ByteArray × Node)) → (List (ByteArray × Int)) → (List (Int × (Int × (Int × (Int × Bool))))) → Option ((Int × (List (Int × (Int × (Int × (Int × Bool)))))) ⊕ (List (Int × (Int × (Int × (Int × Bool))))))) (t1a : Int) (t1b : ByteArray) (t1c : Int) (t1d : Int) (t1e : (List Node)) (t1f : (List ByteArray)) (r0 : Int) (r1a : Int) (r1b : Int) (r2 : (List (ByteArray × Int))) (r3 : (List (ByteArray × Int))) (r4 : (List (ByteArray × Node))) (r5 : (List (ByteArray × Int))) (r6 : (List (Int × (Int × (Int × (Int × Bool)))))) : Tree ((Int × (List (Int × (Int × (Int × (Int × Bool)))))) ⊕ (List (Int × (Int × (Int × (Int × Bool)))))) :=
 let v1 : Bool := (t1a == 0)
 .br v1 (
 .fail) (
 let v2 : Bool := (t1a == 1)
 .br v2 (
 let v4 : Bool := (hasE (eqE .str) t1b r3)
 .br v4 (
 .fail) (
 let v5 : Int := (getE (eqE .str) t1b 0 r2)
 .ret (.inl (v5, r6)))) (
 let v6 : Bool := (t1a == 4)
 .br v6 (
 .fail) (
 let v7 : Bool := (t1a == 2)
 .br v7 (
 let v8 : Bool := (t1b.toList == (⟨#[45]⟩ : ByteArray).toList)
 .call (q7_j13 N q7_r v8 r0 r1a r1b r2 r3 r4 r5 t1e r6) fun y9 => (
 .alt y9 (fun y10 => (
 .ret (.inr y10))) (fun y11 => (
 .call (q7_j15 N q7_r r0 r1a r1b r2 r3 r4 r5 t1a t1b t1e [] r6) fun y12 => (
 .alt y12 (fun y13 => (
 .ret (.inr y13))) (fun y14 => (
 .ret (.inl (y14.1, y14.2))))))))) (
 .call (q7_j13 N q7_r false r0 r1a r1b r2 r3 r4 r5 t1e r6) fun y15 => (
 .alt y15 (fun y16 => (
 .ret (.inr y16))) (fun y17 => (
 .call (q7_j15 N q7_r r0 r1a r1b r2 r3 r4 r5 t1a t1b t1e [] r6) fun y18 => (
 .alt y18 (fun y19 => (
 .ret (.inr y19))) (fun y20 => (
 .ret (.inl (y20.1, y20.2))))))))))))
noncomputable def q7_R (N : Nat) : Nat → Int → ByteArray → Int → Int → (List Node) → (List ByteArray) → Int → Int → Int → (List (ByteArray × Int)) → (List (ByteArray × Int)) → (List (ByteArray × Node)) → (List (ByteArray × Int)) → (List (Int × (Int × (Int × (Int × Bool))))) → Option ((Int × (List (Int × (Int × (Int × (Int × Bool)))))) ⊕ (List (Int × (Int × (Int × (Int × Bool))))))
 | 0 => fun _ _ _ _ _ _ _ _ _ _ _ _ _ _ => none
 | k + 1 => fun t1a t1b t1c t1d t1e t1f r0 r1a r1b r2 r3 r4 r5 r6 => (q7_T N (q7_R N k) t1a t1b t1c t1d t1e t1f r0 r1a r1b r2 r3 r4 r5 r6).run some
noncomputable def q7 (N : Nat) : Int → ByteArray → Int → Int → (List Node) → (List ByteArray) → Int → Int → Int → (List (ByteArray × Int)) → (List (ByteArray × Int)) → (List (ByteArray × Node)) → (List (ByteArray × Int)) → (List (Int × (Int × (Int × (Int × Bool))))) → Option ((Int × (List (Int × (Int × (Int × (Int × Bool)))))) ⊕ (List (Int × (Int × (Int × (Int × Bool)))))) := q7_R N N
/-! ### (*bauta/circ.builder).stmt -/
noncomputable def q84_j14_T (N : Nat) (t56 : Bool) (r0 : Int) (r1a : Int) (r1b : Int) (r2 : (List (ByteArray × Int))) (r3 : (List (ByteArray × Int))) (r4 : (List (ByteArray × Node))) (r5b : ByteArray) (r5e : (List Node)) (r6 : (List (Int × (Int × (Int × (Int × Bool)))))) (r7 : (List (ByteArray × Int))) : Tree (((List (Int × (Int × (Int × (Int × Bool))))) × (List (ByteArray × Int))) ⊕ (List (Int × (Int × (Int × (Int × Bool)))))) :=
 .br t56 (
 .br (inRange 0 r5e.length) (
 let v1 : Node := (r5e.getD 0 (Node.mk 0 ByteArray.empty 0 0 [] []))
 .call (q7 N (Node.k v1) (Node.s v1) (Node.n v1) (Node.a v1) (Node.l v1) (Node.p v1) r0 r1a r1b r2 r3 r4 r7 r6) fun y2 => (
 .alt y2 (fun y3 => (
 .br (ltI (((r7.length : Int) + 1) * 24) 140737488355328) (
 let v5 : (List (ByteArray × Int)) := (r7 ++ [(r5b, y3.1)])
 .ret (.inl (y3.2, v5))) .fail)) (fun y4 => (
 .ret (.inr y4))))) .fail) (
 .ret (.inl (r6, r7)))
noncomputable def q84_j14 (N : Nat) (t56 : Bool) (r0 : Int) (r1a : Int) (r1b : Int) (r2 : (List (ByteArray × Int))) (r3 : (List (ByteArray × Int))) (r4 : (List (ByteArray × Node))) (r5b : ByteArray) (r5e : (List Node)) (r6 : (List (Int × (Int × (Int × (Int × Bool)))))) (r7 : (List (ByteArray × Int))) : Option (((List (Int × (Int × (Int × (Int × Bool))))) × (List (ByteArray × Int))) ⊕ (List (Int × (Int × (Int × (Int × Bool)))))) := (q84_j14_T N t56 r0 r1a r1b r2 r3 r4 r5b r5e r6 r7).run some
noncomputable def q84_T (N : Nat) (t1a : Int) (t1b : ByteArray) (t1c : Int) (t1d : Int) (t1e : (List Node)) (t1f : (List ByteArray)) (r0 : Int) (r1a : Int) (r1b : Int) (r2 : (List (ByteArray × Int))) (r3 : (List (ByteArray × Int))) (r4 : (List (ByteArray × Node))) (r5 : (List (ByteArray × Int))) (r6 : (List (Int × (Int × (Int × (Int × Bool)))))) : Tree ((Int × Int × (List (ByteArray × Int)) × (List (Int × (Int × (Int × (Int × Bool)))))) ⊕ (Int × Int × (List (ByteArray × Int)) × (List (ByteArray × Node)) × (List (Int × (Int × (Int × (Int × Bool))))) × (List (ByteArray × Int)))) :=
 let v1 : Bool := (t1a == 6)
 .br v1 (
 .call (q80 N t1f 1 r1a r2 r6) fun y2 => (
 .alt y2 (fun y3 => (
 .ret (.inl (y3.1, r1b, y3.2.1, y3.2.2)))) (fun y4 => (
 .ret (.inr (y4.1, r1b, y4.2.1, r4, y4.2.2, r5)))))) (
 let v5 : Bool := (t1a == 7)
 .br v5 (
 .call (q81 N t1f 2 r1b r2 r6) fun y6 => (
 .alt y6 (fun y7 => (
 .ret (.inl (r1a, y7.1, y7.2.1, y7.2.2)))) (fun y8 => (
 .ret (.inr (r1a, y8.1, y8.2.1, r4, y8.2.2, r5)))))) (
 let v9 : Bool := (t1a == 12)
 .br v9 (
 let v10 : (List (ByteArray × Node)) := (setE (eqE .str) t1b (Node.mk t1a t1b t1c t1d t1e t1f) r4)
 .ret (.inr (r1a, r1b, r2, v10, r6, r5))) (
 let v11 : Bool := (t1a == 11)
 .br v11 (
 .fail) (
 let v12 : Bool := (t1a == 10)
 .br v12 (
 .br (inRange 0 t1e.length) (
 let v13 : Node := (t1e.getD 0 (Node.mk 0 ByteArray.empty 0 0 [] []))
 .call (q7 N (Node.k v13) (Node.s v13) (Node.n v13) (Node.a v13) (Node.l v13) (Node.p v13) r0 r1a r1b r2 r3 r4 r5 r6) fun y14 => (
 .alt y14 (fun y15 => (
 let v17 : (List (ByteArray × Int)) := (setE (eqE .str) t1b y15.1 r2)
 .ret (.inr (r1a, r1b, v17, r4, y15.2, r5)))) (fun y16 => (
 .ret (.inl (r1a, r1b, r2, y16)))))) .fail) (
 let v18 : Bool := (t1a == 8)
 .br v18 (
 .call (q84_j14 N v18 r0 r1a r1b r2 r3 r4 t1b t1e r6 r5) fun y19 => (
 .alt y19 (fun y20 => (
 .ret (.inr (r1a, r1b, r2, r4, y20.1, y20.2)))) (fun y21 => (
 .ret (.inl (r1a, r1b, r2, y21)))))) (
 let v22 : Bool := (t1a == 9)
 .call (q84_j14 N v22 r0 r1a r1b r2 r3 r4 t1b t1e r6 r5) fun y23 => (
 .alt y23 (fun y24 => (
 .ret (.inr (r1a, r1b, r2, r4, y24.1, y24.2)))) (fun y25 => (
 .ret (.inl (r1a, r1b, r2, y25)))))))))))
noncomputable def q84 (N : Nat) (t1a : Int) (t1b : ByteArray) (t1c : Int) (t1d : Int) (t1e : (List Node)) (t1f : (List ByteArray)) (r0 : Int) (r1a : Int) (r1b : Int) (r2 : (List (ByteArray × Int))) (r3 : (List (ByteArray × Int))) (r4 : (List (ByteArray × Node))) (r5 : (List (ByteArray × Int))) (r6 : (List (Int × (Int × (Int × (Int × Bool)))))) : Option ((Int × Int × (List (ByteArray × Int)) × (List (Int × (Int × (Int × (Int × Bool)))))) ⊕ (Int × Int × (List (ByteArray × Int)) × (List (ByteArray × Node)) × (List (Int × (Int × (Int × (Int × Bool))))) × (List (ByteArray × Int)))) := (q84_T N t1a t1b t1c t1d t1e t1f r0 r1a r1b r2 r3 r4 r5 r6).run some
/-! ### (*bauta/circ.builder).stmts -/
noncomputable def q85_l1_T (N : Nat) (t6 : (List Node)) (t7 : Int) (r3 : (List (ByteArray × Int))) (t8 : Int) (r0 : Int) (r1a : Int) (r1b : Int) (r2 : (List (ByteArray × Int))) (r4 : (List (ByteArray × Node))) (r5 : (List (Int × (Int × (Int × (Int × Bool)))))) (r6 : (List (ByteArray × Int))) : Tree ((Int × Int × Int × Int × (List (ByteArray × Int)) × (List (ByteArray × Node)) × (List (Int × (Int × (Int × (Int × Bool))))) × (List (ByteArray × Int))) ⊕ ((Int × Int × Int × Int × (List (ByteArray × Int)) × (List (ByteArray × Node)) × (List (Int × (Int × (Int × (Int × Bool))))) × (List (ByteArray × Int))) ⊕ (Int × Int × Int × (List (ByteArray × Int)) × (List (ByteArray × Node)) × (List (Int × (Int × (Int × (Int × Bool))))) × (List (ByteArray × Int))))) :=
 let v1 : Bool := (ltI t8 t7)
 .br v1 (
 .br (inRange t8 t6.length) (
 let v2 : Node := (t6.getD t8.toNat (Node.mk 0 ByteArray.empty 0 0 [] []))
 .call (q84 N (Node.k v2) (Node.s v2) (Node.n v2) (Node.a v2) (Node.l v2) (Node.p v2) (Node.a v2) r1a r1b r2 r3 r4 r6 r5) fun y3 => (
 .alt y3 (fun y4 => (
 .ret (.inr (.inl ((Node.a v2), (Node.a v2), y4.1, y4.2.1, y4.2.2.1, r4, y4.2.2.2, r6))))) (fun y5 => (
 let v6 : Int := (IntKind.i64.wrap (t8 + 1))
 .ret (.inl (v6, (Node.a v2), y5.1, y5.2.1, y5.2.2.1, y5.2.2.2.1, y5.2.2.2.2.1, y5.2.2.2.2.2)))))) .fail) (
 .ret (.inr (.inr (r0, r1a, r1b, r2, r4, r5, r6))))
noncomputable def q85_l1 (N : Nat) (t6 : (List Node)) (t7 : Int) (r3 : (List (ByteArray × Int))) (v : (Int × Int × Int × Int × (List (ByteArray × Int)) × (List (ByteArray × Node)) × (List (Int × (Int × (Int × (Int × Bool))))) × (List (ByteArray × Int)))) : Option ((Int × Int × Int × Int × (List (ByteArray × Int)) × (List (ByteArray × Node)) × (List (Int × (Int × (Int × (Int × Bool))))) × (List (ByteArray × Int))) ⊕ (Int × Int × Int × (List (ByteArray × Int)) × (List (ByteArray × Node)) × (List (Int × (Int × (Int × (Int × Bool))))) × (List (ByteArray × Int)))) := loopN (fun v => q85_l1_T N t6 t7 r3 v.1 v.2.1 v.2.2.1 v.2.2.2.1 v.2.2.2.2.1 v.2.2.2.2.2.1 v.2.2.2.2.2.2.1 v.2.2.2.2.2.2.2) N v
noncomputable def q85_T (N : Nat) (t1 : (List Node)) (r0 : Int) (r1a : Int) (r1b : Int) (r2 : (List (ByteArray × Int))) (r3 : (List (ByteArray × Int))) (r4 : (List (ByteArray × Node))) (r5 : (List (ByteArray × Int))) (r6 : (List (Int × (Int × (Int × (Int × Bool)))))) : Tree ((Int × Int × Int × Int × (List (ByteArray × Int)) × (List (ByteArray × Node)) × (List (Int × (Int × (Int × (Int × Bool))))) × (List (ByteArray × Int))) ⊕ (Int × Int × Int × (List (ByteArray × Int)) × (List (ByteArray × Node)) × (List (Int × (Int × (Int × (Int × Bool))))) × (List (ByteArray × Int)))) :=
 let v1 : Int := (t1.length : Int)
 .call (q85_l1 N t1 v1 r3 (0, r0, r1a, r1b, r2, r4, r6, r5)) fun y2 => (
 .alt y2 (fun y3 => (
 .ret (.inl (y3.1, y3.2.1, y3.2.2.1, y3.2.2.2.1, y3.2.2.2.2.1, y3.2.2.2.2.2.1, y3.2.2.2.2.2.2.1, y3.2.2.2.2.2.2.2)))) (fun y4 => (
 .ret (.inr (y4.1, y4.2.1, y4.2.2.1, y4.2.2.2.1, y4.2.2.2.2.1, y4.2.2.2.2.2.1, y4.2.2.2.2.2.2)))))
noncomputable def q85 (N : Nat) (t1 : (List Node)) (r0 : Int) (r1a : Int) (r1b : Int) (r2 : (List (ByteArray × Int))) (r3 : (List (ByteArray × Int))) (r4 : (List (ByteArray × Node))) (r5 : (List (ByteArray × Int))) (r6 : (List (Int × (Int × (Int × (Int × Bool)))))) : Option ((Int × Int × Int × Int × (List (ByteArray × Int)) × (List (ByteArray × Node)) × (List (Int × (Int × (Int × (Int × Bool))))) × (List (ByteArray × Int))) ⊕ (Int × Int × Int × (List (ByteArray × Int)) × (List (ByteArray × Node)) × (List (Int × (Int × (Int × (Int × Bool))))) × (List (ByteArray × Int)))) := (q85_T N t1 r0 r1a r1b r2 r3 r4 r5 r6).run some
/-! ### bauta/circ.built -/
noncomputable def q86_T (N : Nat) (t0e : (List Node)) : Tree (Int × Int × Int × Int × (List (Int × (Int × (Int × (Int × Bool))))) × (List (ByteArray × Int))) :=
 .call (q85 N t0e 0 0 0 [] [] [] [] []) fun y1 => (
 .alt y1 (fun y2 => (
 .ret (0, 0, y2.1, 150, [], []))) (fun y3 => (
 .ret (y3.2.1, y3.2.2.1, 0, 0, y3.2.2.2.2.2.1, y3.2.2.2.2.2.2))))
noncomputable def q86 (N : Nat) (t0e : (List Node)) : Option (Int × Int × Int × Int × (List (Int × (Int × (Int × (Int × Bool))))) × (List (ByteArray × Int))) := (q86_T N t0e).run some
/-! ### bauta/circ.Text -/
noncomputable def q87_T (N : Nat) (t0 : ByteArray) : Tree (Int × Int × Int × Int × (List (Int × (Int × (Int × (Int × Bool))))) × (List (ByteArray × Int))) :=
 .call (q78 N t0) fun y1 => (
 .alt y1 (fun y2 => (
 let v4 : Bool := (y2.2.1 != 0)
 .br v4 (
 .ret (0, 0, y2.1, y2.2.1, [], [])) (
 .call (q86 N []) fun y5 => (
 .ret (y5.1, y5.2.1, y5.2.2.1, y5.2.2.2.1, y5.2.2.2.2.1, y5.2.2.2.2.2))))) (fun y3 => (
 .call (q86 N y3.2.1) fun y6 => (
 .ret (y6.1, y6.2.1, y6.2.2.1, y6.2.2.2.1, y6.2.2.2.2.1, y6.2.2.2.2.2)))))
noncomputable def q87 (N : Nat) (t0 : ByteArray) : Option (Int × Int × Int × Int × (List (Int × (Int × (Int × (Int × Bool))))) × (List (ByteArray × Int))) := (q87_T N t0).run some
/-! ### bauta/circ.at -/
noncomputable def circ_at_T (N : Nat) (t0 : (List Int)) (t1 : Int) : Tree Int :=
 let v1 : Int := (IntKind.u64.wrap t1)
 let v2 : Int := (t0.length : Int)
 let v3 : Int := (IntKind.u64.wrap v2)
 let v4 : Bool := (ltI v1 v3)
 .br v4 (
 .br (inRange t1 t0.length) (
 let v5 : Int := (t0.getD t1.toNat 0)
 .ret v5) .fail) (
 .ret 0)
noncomputable def circ_at (N : Nat) (t0 : (List Int)) (t1 : Int) : Option Int := (circ_at_T N t0 t1).run some
/-! ### math/bits.RotateLeft32 -/
noncomputable def bits_RotateLeft32_T (N : Nat) (t0 : Int) (t1 : Int) : Tree Int :=
 let v1 : Int := (IntKind.u64.wrap t1)
 let v2 : Int := (IntKind.u64.wrap (((BitVec.ofInt 64 v1) &&& (BitVec.ofInt 64 31)).toNat : Int))
 .br (!ltI v2 0) (
 let v3 : Int := (IntKind.u32.wrap (t0 * 2 ^ (min v2.toNat 32)))
 let v4 : Int := (IntKind.u64.wrap (32 - v2))
 .br (!ltI v4 0) (
 let v5 : Int := (t0.fdiv (2 ^ (min v4.toNat 32)))
 let v6 : Int := (IntKind.u32.wrap (((BitVec.ofInt 32 v3) ||| (BitVec.ofInt 32 v5)).toNat : Int))
 .ret v6) .fail) .fail
noncomputable def bits_RotateLeft32 (N : Nat) (t0 : Int) (t1 : Int) : Option Int := (bits_RotateLeft32_T N t0 t1).run some
/-! ### bauta/word.Shift -/
noncomputable def word_Shift_j3_T (N : Nat) (t0 : Int) (t1 : Int) (t2 : Int) : Tree (Int × Bool) :=
 let v1 : Bool := (t0 == 0)
 .br v1 (
 .br (!ltI t2 0) (
 let v2 : Int := (IntKind.u32.wrap (t1 * 2 ^ (min t2.toNat 32)))
 let v3 : Bool := (leI t2 32)
 .br v3 (
 let v4 : Int := (IntKind.u32.wrap (32 - t2))
 .br (!ltI v4 0) (
 let v5 : Int := (t1.fdiv (2 ^ (min v4.toNat 32)))
 let v6 : Int := (IntKind.u32.wrap (((BitVec.ofInt 32 v5) &&& (BitVec.ofInt 32 1)).toNat : Int))
 let v7 : Bool := (v6 == 1)
 .ret (v2, v7)) .fail) (
 .ret (v2, false))) .fail) (
 let v8 : Bool := (t0 == 1)
 .br v8 (
 .br (!ltI t2 0) (
 let v9 : Int := (t1.fdiv (2 ^ (min t2.toNat 32)))
 let v10 : Bool := (leI t2 32)
 .br v10 (
 let v11 : Int := (IntKind.u32.wrap (t2 - 1))
 .br (!ltI v11 0) (
 let v12 : Int := (t1.fdiv (2 ^ (min v11.toNat 32)))
 let v13 : Int := (IntKind.u32.wrap (((BitVec.ofInt 32 v12) &&& (BitVec.ofInt 32 1)).toNat : Int))
 let v14 : Bool := (v13 == 1)
 .ret (v9, v14)) .fail) (
 .ret (v9, false))) .fail) (
 let v15 : Bool := (t0 == 2)
 .br v15 (
 let v16 : Int := (if 32 < t2 then 32 else t2)
 let v17 : Int := (IntKind.i32.wrap t1)
 .br (!ltI v16 0) (
 let v18 : Int := (v17.fdiv (2 ^ (min v16.toNat 32)))
 let v19 : Int := (IntKind.u32.wrap v18)
 let v20 : Int := (IntKind.i32.wrap t1)
 let v21 : Int := (IntKind.u32.wrap (v16 - 1))
 .br (!ltI v21 0) (
 let v22 : Int := (v20.fdiv (2 ^ (min v21.toNat 32)))
 let v23 : Int := (IntKind.u32.wrap v22)
 let v24 : Int := (IntKind.u32.wrap (((BitVec.ofInt 32 v23) &&& (BitVec.ofInt 32 1)).toNat : Int))
 let v25 : Bool := (v24 == 1)
 .ret (v19, v25)) .fail) .fail) (
 let v26 : Bool := (t0 == 3)
 .br v26 (
 let v27 : Int := (t2.tmod 32)
 let v28 : Int := (IntKind.i64.wrap v27)
 let v29 : Int := (IntKind.i64.wrap (0 - v28))
 .call (bits_RotateLeft32 N t1 v29) fun y30 => (
 let v31 : Int := (IntKind.u32.wrap (((BitVec.ofInt 32 y30) &&& (BitVec.ofInt 32 2147483648)).toNat : Int))
 let v32 : Bool := (v31 != 0)
 .ret (y30, v32))) (
 .ret (0, false)))))
noncomputable def word_Shift_j3 (N : Nat) (t0 : Int) (t1 : Int) (t2 : Int) : Option (Int × Bool) := (word_Shift_j3_T N t0 t1 t2).run some
noncomputable def word_Shift_T (N : Nat) (t0 : Int) (t1 : Int) (t2 : Int) (t3 : Bool) : Tree (Int × Bool) :=
 let v1 : Bool := (t2 == 0)
 .br v1 (
 let v2 : Bool := (leI 0 t0)
 .br v2 (
 let v3 : Bool := (leI t0 3)
 .br v3 (
 .ret (t1, t3)) (
 .call (word_Shift_j3 N t0 t1 t2) fun y4 => (
 .ret (y4.1, y4.2)))) (
 .call (word_Shift_j3 N t0 t1 t2) fun y5 => (
 .ret (y5.1, y5.2)))) (
 .call (word_Shift_j3 N t0 t1 t2) fun y6 => (
 .ret (y6.1, y6.2)))
noncomputable def word_Shift (N : Nat) (t0 : Int) (t1 : Int) (t2 : Int) (t3 : Bool) : Option (Int × Bool) := (word_Shift_T N t0 t1 t2 t3).run some
/-! ### bauta/word.Rot -/
noncomputable def word_Rot_T (N : Nat) (t0 : Int) (t1 : Int) : Tree Int :=
 let v1 : Int := (t1.tmod 32)
 let v2 : Int := (IntKind.i64.wrap v1)
 .call (bits_RotateLeft32 N t0 v2) fun y3 => (
 .ret y3)
noncomputable def word_Rot (N : Nat) (t0 : Int) (t1 : Int) : Option Int := (word_Rot_T N t0 t1).run some
/-! ### bauta/circ.words -/
noncomputable def circ_words_j12_T (N : Nat) (t1 : (List Int)) (t2 : (List Int)) (t10 : Int) (t11 : Int) (t12 : Int) (r0 : (List Int)) (r1a : Int) (r1d : Int) : Tree (List Int) :=
 let v1 : Bool := (r1a == 0)
 .br v1 (
 .br (ltI (((r0.length : Int) + 1) * 4) 140737488355328) (
 let v2 : (List Int) := (r0 ++ [r1d])
 .ret v2) .fail) (
 let v3 : Bool := (r1a == 1)
 .br v3 (
 .call (circ_at N t1 r1d) fun y4 => (
 .br (ltI (((r0.length : Int) + 1) * 4) 140737488355328) (
 let v5 : (List Int) := (r0 ++ [y4])
 .ret v5) .fail)) (
 let v6 : Bool := (r1a == 2)
 .br v6 (
 .call (circ_at N t2 r1d) fun y7 => (
 .br (ltI (((r0.length : Int) + 1) * 4) 140737488355328) (
 let v8 : (List Int) := (r0 ++ [y7])
 .ret v8) .fail)) (
 let v9 : Bool := (r1a == 3)
 .br v9 (
 let v10 : Int := (IntKind.u32.wrap (((BitVec.ofInt 32 t10) &&& (BitVec.ofInt 32 t11)).toNat : Int))
 .br (ltI (((r0.length : Int) + 1) * 4) 140737488355328) (
 let v11 : (List Int) := (r0 ++ [v10])
 .ret v11) .fail) (
 let v12 : Bool := (r1a == 4)
 .br v12 (
 let v13 : Int := (IntKind.u32.wrap (((BitVec.ofInt 32 t10) ^^^ (BitVec.ofInt 32 t11)).toNat : Int))
 .br (ltI (((r0.length : Int) + 1) * 4) 140737488355328) (
 let v14 : (List Int) := (r0 ++ [v13])
 .ret v14) .fail) (
 let v15 : Bool := (r1a == 5)
 .br v15 (
 let v16 : Int := (IntKind.u32.wrap ((BitVec.ofInt 32 4294967295 ^^^ BitVec.ofInt 32 t10).toNat : Int))
 .br (ltI (((r0.length : Int) + 1) * 4) 140737488355328) (
 let v17 : (List Int) := (r0 ++ [v16])
 .ret v17) .fail) (
 let v18 : Bool := (r1a == 6)
 .br v18 (
 .call (word_Shift N 0 t10 r1d false) fun y19 => (
 .br (ltI (((r0.length : Int) + 1) * 4) 140737488355328) (
 let v20 : (List Int) := (r0 ++ [y19.1])
 .ret v20) .fail)) (
 let v21 : Bool := (r1a == 7)
 .br v21 (
 .call (word_Shift N 1 t10 r1d false) fun y22 => (
 .br (ltI (((r0.length : Int) + 1) * 4) 140737488355328) (
 let v23 : (List Int) := (r0 ++ [y22.1])
 .ret v23) .fail)) (
 let v24 : Bool := (r1a == 8)
 .br v24 (
 .call (word_Rot N t10 r1d) fun y25 => (
 .br (ltI (((r0.length : Int) + 1) * 4) 140737488355328) (
 let v26 : (List Int) := (r0 ++ [y25])
 .ret v26) .fail)) (
 let v27 : Bool := (r1a == 9)
 .br v27 (
 let v28 : Int := (IntKind.u32.wrap (((BitVec.ofInt 32 t10) ||| (BitVec.ofInt 32 t11)).toNat : Int))
 .br (ltI (((r0.length : Int) + 1) * 4) 140737488355328) (
 let v29 : (List Int) := (r0 ++ [v28])
 .ret v29) .fail) (
 let v30 : Bool := (r1a == 10)
 .br v30 (
 let v31 : Int := (IntKind.u32.wrap (t10 + t11))
 .br (ltI (((r0.length : Int) + 1) * 4) 140737488355328) (
 let v32 : (List Int) := (r0 ++ [v31])
 .ret v32) .fail) (
 let v33 : Bool := (r1a == 11)
 .br v33 (
 let v34 : Int := (IntKind.u32.wrap (t10 - t11))
 .br (ltI (((r0.length : Int) + 1) * 4) 140737488355328) (
 let v35 : (List Int) := (r0 ++ [v34])
 .ret v35) .fail) (
 .br (ltI (((r0.length : Int) + 1) * 4) 140737488355328) (
 let v36 : (List Int) := (r0 ++ [t12])
 .ret v36) .fail))))))))))))
noncomputable def circ_words_j12 (N : Nat) (t1 : (List Int)) (t2 : (List Int)) (t10 : Int) (t11 : Int) (t12 : Int) (r0 : (List Int)) (r1a : Int) (r1d : Int) : Option (List Int) := (circ_words_j12_T N t1 t2 t10 t11 t12 r0 r1a r1d).run some
noncomputable def circ_words_j10_T (N : Nat) (t1 : (List Int)) (t2 : (List Int)) (t10 : Int) (t11 : Int) (t12 : Int) (r0 : (List Int)) (r1a : Int) (r1c : Int) (r1d : Int) : Tree (List Int) :=
 .call (circ_takes N r1a) fun y1 => (
 let v2 : Bool := (ltI 1 y1)
 .br v2 (
 .br (inRange r1c r0.length) (
 let v3 : Int := (r0.getD r1c.toNat 0)
 .call (circ_words_j12 N t1 t2 t10 v3 t12 r0 r1a r1d) fun y4 => (
 .ret y4)) .fail) (
 .call (circ_words_j12 N t1 t2 t10 t11 t12 r0 r1a r1d) fun y5 => (
 .ret y5)))
noncomputable def circ_words_j10 (N : Nat) (t1 : (List Int)) (t2 : (List Int)) (t10 : Int) (t11 : Int) (t12 : Int) (r0 : (List Int)) (r1a : Int) (r1c : Int) (r1d : Int) : Option (List Int) := (circ_words_j10_T N t1 t2 t10 t11 t12 r0 r1a r1c r1d).run some
noncomputable def circ_words_l5_T (N : Nat) (t1 : (List Int)) (t2 : (List Int)) (t17 : (List (Int × (Int × (Int × (Int × Bool)))))) (t18 : Int) (t19 : Int) (r0 : (List Int)) : Tree ((Int × (List Int)) ⊕ (List Int)) :=
 let v1 : Bool := (ltI t19 t18)
 .br v1 (
 .br (inRange t19 t17.length) (
 let v2 : (Int × (Int × (Int × (Int × Bool)))) := (t17.getD t19.toNat (0, (0, (0, (0, false)))))
 .call (circ_takes N v2.1) fun y3 => (
 let v4 : Bool := (ltI 0 y3)
 .br v4 (
 .br (inRange v2.2.1 r0.length) (
 let v5 : Int := (r0.getD v2.2.1.toNat 0)
 .call (circ_words_j10 N t1 t2 v5 0 0 r0 v2.1 v2.2.2.1 v2.2.2.2.1) fun y6 => (
 let v7 : Int := (IntKind.i64.wrap (t19 + 1))
 .ret (.inl (v7, y6)))) .fail) (
 .call (circ_words_j10 N t1 t2 0 0 0 r0 v2.1 v2.2.2.1 v2.2.2.2.1) fun y8 => (
 let v9 : Int := (IntKind.i64.wrap (t19 + 1))
 .ret (.inl (v9, y8)))))) .fail) (
 .ret (.inr r0))
noncomputable def circ_words_l5 (N : Nat) (t1 : (List Int)) (t2 : (List Int)) (t17 : (List (Int × (Int × (Int × (Int × Bool)))))) (t18 : Int) (v : (Int × (List Int))) : Option (List Int) := loopN (fun v => circ_words_l5_T N t1 t2 t17 t18 v.1 v.2) N v
noncomputable def circ_words_T (N : Nat) (t0a : (List (Int × (Int × (Int × (Int × Bool)))))) (t0b : Int) (t0c : Int) (t0d : (List (ByteArray × Int))) (t1 : (List Int)) (t2 : (List Int)) : Tree (List Int) :=
 .call (circ_can N t0a t0b t0c t0d) fun y1 => (
 let v2 : Bool := (!y1)
 .br v2 (
 .ret []) (
 let v3 : Int := (t0a.length : Int)
 .call (circ_words_l5 N t1 t2 t0a v3 (0, [])) fun y4 => (
 .ret y4)))
noncomputable def circ_words (N : Nat) (t0a : (List (Int × (Int × (Int × (Int × Bool)))))) (t0b : Int) (t0c : Int) (t0d : (List (ByteArray × Int))) (t1 : (List Int)) (t2 : (List Int)) : Option (List Int) := (circ_words_T N t0a t0b t0c t0d t1 t2).run some
/-! ### bauta/circ.Outs -/
noncomputable def circ_Outs_l6_T (N : Nat) (t19 : (List (ByteArray × Int))) (t20 : Int) (r0 : (List Int)) (t21 : Int) (r1 : (List Int)) : Tree ((Int × (List Int)) ⊕ (List Int)) :=
 let v1 : Bool := (ltI t21 t20)
 .br v1 (
 .br (inRange t21 t19.length) (
 let v2 : (ByteArray × Int) := (t19.getD t21.toNat (ByteArray.empty, 0))
 .br (inRange v2.2 r0.length) (
 let v3 : Int := (r0.getD v2.2.toNat 0)
 .br (ltI (((r1.length : Int) + 1) * 4) 140737488355328) (
 let v4 : (List Int) := (r1 ++ [v3])
 let v5 : Int := (IntKind.i64.wrap (t21 + 1))
 .ret (.inl (v5, v4))) .fail) .fail) .fail) (
 .ret (.inr r1))
noncomputable def circ_Outs_l6 (N : Nat) (t19 : (List (ByteArray × Int))) (t20 : Int) (r0 : (List Int)) (v : (Int × (List Int))) : Option (List Int) := loopN (fun v => circ_Outs_l6_T N t19 t20 r0 v.1 v.2) N v
noncomputable def circ_Outs_T (N : Nat) (t0a : (List (Int × (Int × (Int × (Int × Bool)))))) (t0b : Int) (t0c : Int) (t0d : (List (ByteArray × Int))) (t1 : (List Int)) (t2 : (List Int)) : Tree (List Int) :=
 .call (circ_can N t0a t0b t0c t0d) fun y1 => (
 let v2 : Bool := (!y1)
 .br v2 (
 .ret []) (
 .call (circ_words N t0a t0b t0c t0d t1 t2) fun y3 => (
 let v4 : Int := (t0d.length : Int)
 .call (circ_Outs_l6 N t0d v4 y3 (0, [])) fun y5 => (
 .ret y5))))
noncomputable def circ_Outs (N : Nat) (t0a : (List (Int × (Int × (Int × (Int × Bool)))))) (t0b : Int) (t0c : Int) (t0d : (List (ByteArray × Int))) (t1 : (List Int)) (t2 : (List Int)) : Option (List Int) := (circ_Outs_T N t0a t0b t0c t0d t1 t2).run some
/-! ### bauta/bautalaw15.lives -/
noncomputable def bautalaw15_lives_T (N : Nat) : Tree Bool :=
 .call (q87 N (⟨#[115, 101, 99, 114, 101, 116, 32, 97, 59, 32, 111, 117, 116, 32, 111, 32, 61, 32, 126, 97, 59]⟩ : ByteArray)) fun y1 => (
 .call (circ_Outs N y1.2.2.2.2.1 y1.1 y1.2.1 y1.2.2.2.2.2 [5] []) fun y2 => (
 let v3 : Bool := (y1.2.2.2.1 == 0)
 .br v3 (
 let v4 : Int := (y1.2.2.2.2.1.length : Int)
 let v5 : Bool := (v4 == 2)
 .br v5 (
 let v6 : Int := (y2.length : Int)
 let v7 : Bool := (v6 == 1)
 .br v7 (
 .br (inRange 0 y2.length) (
 let v8 : Int := (y2.getD 0 0)
 let v9 : Bool := (v8 == 4294967290)
 .ret v9) .fail) (
 .ret false)) (
 .ret false)) (
 .ret false)))
noncomputable def bautalaw15_lives (N : Nat) : Option Bool := (bautalaw15_lives_T N).run some
/-! ### bauta/bautalaw15.CircCans -/
noncomputable def bautalaw15_CircCans_T (N : Nat) (t0a : (List (Int × (Int × (Int × (Int × Bool)))))) (t0b : Int) (t0c : Int) (t0d : (List (ByteArray × Int))) : Tree Bool :=
 .call (bautaref15_Own N t0a t0d) fun y1 => (
 .call (circ_Can N t0a t0b t0c t0d) fun y2 => (
 .call (bautaref15_Can N t0a t0b t0c t0d) fun y3 => (
 let v4 : Bool := (y2 == y3)
 .br v4 (
 .call (bautalaw15_lives N) fun y5 => (
 .ret y5)) (
 .ret false))))
noncomputable def bautalaw15_CircCans (N : Nat) (t0a : (List (Int × (Int × (Int × (Int × Bool)))))) (t0b : Int) (t0c : Int) (t0d : (List (ByteArray × Int))) : Option Bool := (bautalaw15_CircCans_T N t0a t0b t0c t0d).run some
/-! ### bauta/bautalaw15.short -/
noncomputable def bautalaw15_short_T (N : Nat) (t0 : (List Int)) : Tree (List Int) :=
 let v1 : Int := (t0.length : Int)
 let v2 : Bool := (ltI 100 v1)
 .br v2 (
 .br (leI 0 100 && leI 100 (t0.length : Int)) (
 let v3 : (List Int) := (t0.take 100)
 .br (ltI ((0 + (v3.length : Int)) * 4) 140737488355328) (
 .ret v3) .fail) .fail) (
 .br (ltI ((0 + (t0.length : Int)) * 4) 140737488355328) (
 .ret t0) .fail)
noncomputable def bautalaw15_short (N : Nat) (t0 : (List Int)) : Option (List Int) := (bautalaw15_short_T N t0).run some
/-! ### bauta/bautalaw15.Small -/
noncomputable def bautalaw15_Small_T (N : Nat) (t0a : (List (Int × (Int × (Int × (Int × Bool)))))) (t0d : (List (ByteArray × Int))) : Tree Bool :=
 let v1 : Int := (t0a.length : Int)
 let v2 : Bool := (leI v1 3000)
 .br v2 (
 let v3 : Int := (t0d.length : Int)
 let v4 : Bool := (leI v3 300)
 .ret v4) (
 .ret false)
noncomputable def bautalaw15_Small (N : Nat) (t0a : (List (Int × (Int × (Int × (Int × Bool)))))) (t0d : (List (ByteArray × Int))) : Option Bool := (bautalaw15_Small_T N t0a t0d).run some
/-! ### bauta/circ.Words -/
noncomputable def circ_Words_T (N : Nat) (t0a : (List (Int × (Int × (Int × (Int × Bool)))))) (t0b : Int) (t0c : Int) (t0d : (List (ByteArray × Int))) (t1 : (List Int)) (t2 : (List Int)) : Tree (List Int) :=
 .call (circ_words N t0a t0b t0c t0d t1 t2) fun y1 => (
 .ret y1)
noncomputable def circ_Words (N : Nat) (t0a : (List (Int × (Int × (Int × (Int × Bool)))))) (t0b : Int) (t0c : Int) (t0d : (List (ByteArray × Int))) (t1 : (List Int)) (t2 : (List Int)) : Option (List Int) := (circ_Words_T N t0a t0b t0c t0d t1 t2).run some
/-! ### bauta/bautaref15.at -/
noncomputable def bautaref15_at_T (N : Nat) (t0 : (List Int)) (t1 : Int) : Tree Int :=
 let v1 : Int := (IntKind.i64.wrap t1)
 let v2 : Int := (t0.length : Int)
 let v3 : Bool := (ltI v1 v2)
 .br v3 (
 .br (inRange t1 t0.length) (
 let v4 : Int := (t0.getD t1.toNat 0)
 .ret v4) .fail) (
 .ret 0)
noncomputable def bautaref15_at (N : Nat) (t0 : (List Int)) (t1 : Int) : Option Int := (bautaref15_at_T N t0 t1).run some
/-! ### bauta/bautaref01.Bits -/
noncomputable def bautaref01_Bits_l3_T (N : Nat) (t0 : Int) (t4 : Int) (r0 : (List Bool)) : Tree ((Int × Int × (List Bool)) ⊕ (List Bool)) :=
 let v1 : Bool := (ltI t4 32)
 .br v1 (
 let v2 : Int := (t0.tmod 2)
 let v3 : Bool := (v2 == 1)
 .br (ltI (((r0.length : Int) + 1) * 1) 140737488355328) (
 let v4 : (List Bool) := (r0 ++ [v3])
 let v5 : Int := (IntKind.u32.wrap (t0.tdiv 2))
 let v6 : Int := (IntKind.i64.wrap (t4 + 1))
 .ret (.inl (v5, v6, v4))) .fail) (
 .ret (.inr r0))
noncomputable def bautaref01_Bits_l3 (N : Nat) (v : (Int × Int × (List Bool))) : Option (List Bool) := loopN (fun v => bautaref01_Bits_l3_T N v.1 v.2.1 v.2.2) N v
noncomputable def bautaref01_Bits_T (N : Nat) (t0 : Int) : Tree (List Bool) :=
 .call (bautaref01_Bits_l3 N (t0, 0, [])) fun y1 => (
 .ret y1)
noncomputable def bautaref01_Bits (N : Nat) (t0 : Int) : Option (List Bool) := (bautaref01_Bits_T N t0).run some
/-! ### bauta/bautaref01.Word -/
noncomputable def bautaref01_Word_l3_T (N : Nat) (t0 : (List Bool)) (t3 : Int) (t4 : Int) : Tree ((Int × Int) ⊕ Int) :=
 let v1 : Bool := (leI 0 t4)
 .br v1 (
 let v2 : Int := (IntKind.u32.wrap (t3 * 2))
 .br (inRange t4 t0.length) (
 let v3 : Bool := (t0.getD t4.toNat false)
 .br v3 (
 let v4 : Int := (IntKind.u32.wrap (v2 + 1))
 let v5 : Int := (IntKind.i64.wrap (t4 - 1))
 .ret (.inl (v4, v5))) (
 let v6 : Int := (IntKind.i64.wrap (t4 - 1))
 .ret (.inl (v2, v6)))) .fail) (
 .ret (.inr t3))
noncomputable def bautaref01_Word_l3 (N : Nat) (t0 : (List Bool)) (v : (Int × Int)) : Option Int := loopN (fun v => bautaref01_Word_l3_T N t0 v.1 v.2) N v
noncomputable def bautaref01_Word_T (N : Nat) (t0 : (List Bool)) : Tree Int :=
 let v1 : Int := (t0.length : Int)
 let v2 : Int := (IntKind.i64.wrap (v1 - 1))
 .call (bautaref01_Word_l3 N t0 (0, v2)) fun y3 => (
 .ret y3)
noncomputable def bautaref01_Word (N : Nat) (t0 : (List Bool)) : Option Int := (bautaref01_Word_T N t0).run some
/-! ### bauta/bautaref01.Shift -/
noncomputable def bautaref01_Shift_j14_T (N : Nat) (t13 : Int) (t50 : Bool) (r0 : (List Bool)) (r1 : (List Bool)) : Tree (List Bool) :=
 .br t50 (
 let v1 : Int := (IntKind.i64.wrap (t13 - 1))
 .br (inRange v1 r0.length) (
 let v2 : Bool := (r0.getD v1.toNat false)
 .br (inRange t13 r1.length) (
 let v3 : (List Bool) := (r1.set t13.toNat v2)
 .ret v3) .fail) .fail) (
 .ret r1)
noncomputable def bautaref01_Shift_j14 (N : Nat) (t13 : Int) (t50 : Bool) (r0 : (List Bool)) (r1 : (List Bool)) : Option (List Bool) := (bautaref01_Shift_j14_T N t13 t50 r0 r1).run some
noncomputable def bautaref01_Shift_j16_T (N : Nat) (t13 : Int) (t64 : Bool) (r0 : (List Bool)) (r1 : (List Bool)) : Tree (List Bool) :=
 .br t64 (
 let v1 : Int := (IntKind.i64.wrap (t13 + 1))
 .br (inRange v1 r0.length) (
 let v2 : Bool := (r0.getD v1.toNat false)
 .br (inRange t13 r1.length) (
 let v3 : (List Bool) := (r1.set t13.toNat v2)
 .ret v3) .fail) .fail) (
 .ret r1)
noncomputable def bautaref01_Shift_j16 (N : Nat) (t13 : Int) (t64 : Bool) (r0 : (List Bool)) (r1 : (List Bool)) : Option (List Bool) := (bautaref01_Shift_j16_T N t13 t64 r0 r1).run some
noncomputable def bautaref01_Shift_j15_T (N : Nat) (t0 : Int) (t13 : Int) (r0 : (List Bool)) (r1 : (List Bool)) : Tree (List Bool) :=
 let v1 : Bool := (ltI 0 t0)
 .br v1 (
 let v2 : Bool := (ltI t13 31)
 .call (bautaref01_Shift_j16 N t13 v2 r0 r1) fun y3 => (
 .ret y3)) (
 .call (bautaref01_Shift_j16 N t13 false r0 r1) fun y4 => (
 .ret y4))
noncomputable def bautaref01_Shift_j15 (N : Nat) (t0 : Int) (t13 : Int) (r0 : (List Bool)) (r1 : (List Bool)) : Option (List Bool) := (bautaref01_Shift_j15_T N t0 t13 r0 r1).run some
noncomputable def bautaref01_Shift_l11_T (N : Nat) (t0 : Int) (r0 : (List Bool)) (t13 : Int) (r1 : (List Bool)) : Tree ((Int × (List Bool)) ⊕ (List Bool)) :=
 let v1 : Bool := (ltI t13 32)
 .br v1 (
 let v2 : Bool := (t0 == 0)
 .br v2 (
 let v3 : Bool := (ltI 0 t13)
 .call (bautaref01_Shift_j14 N t13 v3 r0 r1) fun y4 => (
 .call (bautaref01_Shift_j15 N t0 t13 r0 y4) fun y5 => (
 let v6 : Int := (IntKind.i64.wrap (t13 + 1))
 .ret (.inl (v6, y5))))) (
 .call (bautaref01_Shift_j14 N t13 false r0 r1) fun y7 => (
 .call (bautaref01_Shift_j15 N t0 t13 r0 y7) fun y8 => (
 let v9 : Int := (IntKind.i64.wrap (t13 + 1))
 .ret (.inl (v9, y8)))))) (
 .ret (.inr r1))
noncomputable def bautaref01_Shift_l11 (N : Nat) (t0 : Int) (r0 : (List Bool)) (v : (Int × (List Bool))) : Option (List Bool) := loopN (fun v => bautaref01_Shift_l11_T N t0 r0 v.1 v.2) N v
noncomputable def bautaref01_Shift_j22_T (N : Nat) (t0 : Int) (r0 : (List Bool)) (r1 : (List Bool)) : Tree (List Bool) :=
 let v1 : Bool := (t0 == 3)
 .br v1 (
 .br (inRange 0 r0.length) (
 let v2 : Bool := (r0.getD 0 false)
 .br (inRange 31 r1.length) (
 let v3 : (List Bool) := (r1.set 31 v2)
 .ret v3) .fail) .fail) (
 .ret r1)
noncomputable def bautaref01_Shift_j22 (N : Nat) (t0 : Int) (r0 : (List Bool)) (r1 : (List Bool)) : Option (List Bool) := (bautaref01_Shift_j22_T N t0 r0 r1).run some
noncomputable def bautaref01_Shift_j20_T (N : Nat) (t0 : Int) (r0 : (List Bool)) (r1 : (List Bool)) : Tree (List Bool) :=
 let v1 : Bool := (t0 == 2)
 .br v1 (
 .br (inRange 31 r0.length) (
 let v2 : Bool := (r0.getD 31 false)
 .br (inRange 31 r1.length) (
 let v3 : (List Bool) := (r1.set 31 v2)
 .call (bautaref01_Shift_j22 N t0 r0 v3) fun y4 => (
 .ret y4)) .fail) .fail) (
 .call (bautaref01_Shift_j22 N t0 r0 r1) fun y5 => (
 .ret y5))
noncomputable def bautaref01_Shift_j20 (N : Nat) (t0 : Int) (r0 : (List Bool)) (r1 : (List Bool)) : Option (List Bool) := (bautaref01_Shift_j20_T N t0 r0 r1).run some
noncomputable def bautaref01_Shift_j9_T (N : Nat) (t0 : Int) (t11 : Int) (r0 : (List Bool)) : Tree (Bool × Int × (List Bool)) :=
 let v1 : (List Bool) := [false, false, false, false, false, false, false, false, false, false, false, false, false, false, false, false, false, false, false, false, false, false, false, false, false, false, false, false, false, false, false, false]
 .call (bautaref01_Shift_l11 N t0 r0 (0, v1)) fun y2 => (
 let v3 : Bool := (t0 == 0)
 .br v3 (
 .br (inRange 31 r0.length) (
 let v4 : Bool := (r0.getD 31 false)
 .call (bautaref01_Shift_j20 N t0 r0 y2) fun y5 => (
 let v6 : Int := (IntKind.u32.wrap (t11 + 1))
 .ret (v4, v6, y5))) .fail) (
 .br (inRange 0 r0.length) (
 let v7 : Bool := (r0.getD 0 false)
 .call (bautaref01_Shift_j20 N t0 r0 y2) fun y8 => (
 let v9 : Int := (IntKind.u32.wrap (t11 + 1))
 .ret (v7, v9, y8))) .fail))
noncomputable def bautaref01_Shift_j9 (N : Nat) (t0 : Int) (t11 : Int) (r0 : (List Bool)) : Option (Bool × Int × (List Bool)) := (bautaref01_Shift_j9_T N t0 t11 r0).run some
noncomputable def bautaref01_Shift_l7_T (N : Nat) (t0 : Int) (t2 : Int) (t3 : Bool) (t11 : Int) (r0 : (List Bool)) : Tree ((Bool × Int × (List Bool)) ⊕ (Bool × (List Bool))) :=
 let v1 : Bool := (ltI t11 t2)
 .br v1 (
 let v2 : Bool := (ltI t11 70)
 .br v2 (
 .call (bautaref01_Shift_j9 N t0 t11 r0) fun y3 => (
 .ret (.inl (y3.1, y3.2.1, y3.2.2)))) (
 .ret (.inr (t3, r0)))) (
 .ret (.inr (t3, r0)))
noncomputable def bautaref01_Shift_l7 (N : Nat) (t0 : Int) (t2 : Int) (v : (Bool × Int × (List Bool))) : Option (Bool × (List Bool)) := loopN (fun v => bautaref01_Shift_l7_T N t0 t2 v.1 v.2.1 v.2.2) N v
noncomputable def bautaref01_Shift_j5_T (N : Nat) (t0 : Int) (t1 : Int) (t2 : Int) (t3 : Bool) : Tree (Int × Bool) :=
 .call (bautaref01_Bits N t1) fun y1 => (
 .call (bautaref01_Shift_l7 N t0 t2 (t3, 0, y1)) fun y2 => (
 .call (bautaref01_Word N y2.2) fun y3 => (
 .ret (y3, y2.1))))
noncomputable def bautaref01_Shift_j5 (N : Nat) (t0 : Int) (t1 : Int) (t2 : Int) (t3 : Bool) : Option (Int × Bool) := (bautaref01_Shift_j5_T N t0 t1 t2 t3).run some
noncomputable def bautaref01_Shift_j3_T (N : Nat) (t0 : Int) (t1 : Int) (t2 : Int) (t3 : Bool) : Tree (Int × Bool) :=
 let v1 : Bool := (t0 == 3)
 .br v1 (
 let v2 : Bool := (ltI 64 t2)
 .br v2 (
 let v3 : Int := (t2.tmod 32)
 let v4 : Int := (IntKind.u32.wrap (32 + v3))
 .call (bautaref01_Shift_j5 N t0 t1 v4 t3) fun y5 => (
 .ret (y5.1, y5.2))) (
 .call (bautaref01_Shift_j5 N t0 t1 t2 t3) fun y6 => (
 .ret (y6.1, y6.2)))) (
 .call (bautaref01_Shift_j5 N t0 t1 t2 t3) fun y7 => (
 .ret (y7.1, y7.2)))
noncomputable def bautaref01_Shift_j3 (N : Nat) (t0 : Int) (t1 : Int) (t2 : Int) (t3 : Bool) : Option (Int × Bool) := (bautaref01_Shift_j3_T N t0 t1 t2 t3).run some
noncomputable def bautaref01_Shift_T (N : Nat) (t0 : Int) (t1 : Int) (t2 : Int) (t3 : Bool) : Tree (Int × Bool) :=
 let v1 : Bool := (ltI t0 0)
 .br v1 (
 .ret (0, false)) (
 let v2 : Bool := (ltI 3 t0)
 .br v2 (
 .ret (0, false)) (
 .call (bautaref01_Shift_j3 N t0 t1 t2 t3) fun y3 => (
 .ret (y3.1, y3.2))))
noncomputable def bautaref01_Shift (N : Nat) (t0 : Int) (t1 : Int) (t2 : Int) (t3 : Bool) : Option (Int × Bool) := (bautaref01_Shift_T N t0 t1 t2 t3).run some
/-! ### bauta/bautaref01.Rot -/
noncomputable def bautaref01_Rot_l3_T (N : Nat) (t1 : Int) (t6 : Int) (r0 : (List Bool)) : Tree ((Int × (List Bool)) ⊕ (List Bool)) :=
 let v1 : Int := (t1.tmod 32)
 let v2 : Bool := (ltI t6 v1)
 .br v2 (
 .br (inRange 31 r0.length) (
 let v3 : Bool := (r0.getD 31 false)
 .br (leI 0 31 && leI 31 (r0.length : Int)) (
 .br (ltI ((1 + (((r0.drop 0).take 31).length : Int)) * 1) 140737488355328) (
 let v4 : (List Bool) := ([v3] ++ ((r0.drop 0).take 31))
 let v5 : Int := (IntKind.u32.wrap (t6 + 1))
 .ret (.inl (v5, v4))) .fail) .fail) .fail) (
 .ret (.inr r0))
noncomputable def bautaref01_Rot_l3 (N : Nat) (t1 : Int) (v : (Int × (List Bool))) : Option (List Bool) := loopN (fun v => bautaref01_Rot_l3_T N t1 v.1 v.2) N v
noncomputable def bautaref01_Rot_T (N : Nat) (t0 : Int) (t1 : Int) : Tree Int :=
 .call (bautaref01_Bits N t0) fun y1 => (
 .call (bautaref01_Rot_l3 N t1 (0, y1)) fun y2 => (
 .call (bautaref01_Word N y2) fun y3 => (
 .ret y3)))
noncomputable def bautaref01_Rot (N : Nat) (t0 : Int) (t1 : Int) : Option Int := (bautaref01_Rot_T N t0 t1).run some
/-! ### bauta/bautaref15.Words -/
noncomputable def bautaref15_Words_j11_T (N : Nat) (t1 : (List Int)) (t2 : (List Int)) (t11 : Int) (t12 : Int) (r1 : (List Int)) (r2a : Int) (r2d : Int) : Tree (List Int) :=
 let v1 : Bool := (r2a == 0)
 .br v1 (
 .br (ltI (((r1.length : Int) + 1) * 4) 140737488355328) (
 let v2 : (List Int) := (r1 ++ [r2d])
 .ret v2) .fail) (
 let v3 : Bool := (r2a == 1)
 .br v3 (
 .call (bautaref15_at N t1 r2d) fun y4 => (
 .br (ltI (((r1.length : Int) + 1) * 4) 140737488355328) (
 let v5 : (List Int) := (r1 ++ [y4])
 .ret v5) .fail)) (
 let v6 : Bool := (r2a == 2)
 .br v6 (
 .call (bautaref15_at N t2 r2d) fun y7 => (
 .br (ltI (((r1.length : Int) + 1) * 4) 140737488355328) (
 let v8 : (List Int) := (r1 ++ [y7])
 .ret v8) .fail)) (
 let v9 : Bool := (r2a == 3)
 .br v9 (
 let v10 : Int := (IntKind.u32.wrap (((BitVec.ofInt 32 t11) &&& (BitVec.ofInt 32 t12)).toNat : Int))
 .br (ltI (((r1.length : Int) + 1) * 4) 140737488355328) (
 let v11 : (List Int) := (r1 ++ [v10])
 .ret v11) .fail) (
 let v12 : Bool := (r2a == 4)
 .br v12 (
 let v13 : Int := (IntKind.u32.wrap (((BitVec.ofInt 32 t11) ^^^ (BitVec.ofInt 32 t12)).toNat : Int))
 .br (ltI (((r1.length : Int) + 1) * 4) 140737488355328) (
 let v14 : (List Int) := (r1 ++ [v13])
 .ret v14) .fail) (
 let v15 : Bool := (r2a == 5)
 .br v15 (
 let v16 : Int := (IntKind.u32.wrap (4294967295 - t11))
 .br (ltI (((r1.length : Int) + 1) * 4) 140737488355328) (
 let v17 : (List Int) := (r1 ++ [v16])
 .ret v17) .fail) (
 let v18 : Bool := (r2a == 6)
 .br v18 (
 .call (bautaref01_Shift N 0 t11 r2d false) fun y19 => (
 .br (ltI (((r1.length : Int) + 1) * 4) 140737488355328) (
 let v20 : (List Int) := (r1 ++ [y19.1])
 .ret v20) .fail)) (
 let v21 : Bool := (r2a == 7)
 .br v21 (
 .call (bautaref01_Shift N 1 t11 r2d false) fun y22 => (
 .br (ltI (((r1.length : Int) + 1) * 4) 140737488355328) (
 let v23 : (List Int) := (r1 ++ [y22.1])
 .ret v23) .fail)) (
 let v24 : Bool := (r2a == 8)
 .br v24 (
 .call (bautaref01_Rot N t11 r2d) fun y25 => (
 .br (ltI (((r1.length : Int) + 1) * 4) 140737488355328) (
 let v26 : (List Int) := (r1 ++ [y25])
 .ret v26) .fail)) (
 let v27 : Bool := (r2a == 9)
 .br v27 (
 let v28 : Int := (IntKind.u32.wrap (((BitVec.ofInt 32 t11) ||| (BitVec.ofInt 32 t12)).toNat : Int))
 .br (ltI (((r1.length : Int) + 1) * 4) 140737488355328) (
 let v29 : (List Int) := (r1 ++ [v28])
 .ret v29) .fail) (
 let v30 : Bool := (r2a == 10)
 .br v30 (
 let v31 : Int := (IntKind.u32.wrap (t11 + t12))
 .br (ltI (((r1.length : Int) + 1) * 4) 140737488355328) (
 let v32 : (List Int) := (r1 ++ [v31])
 .ret v32) .fail) (
 let v33 : Int := (IntKind.u32.wrap (t11 - t12))
 .br (ltI (((r1.length : Int) + 1) * 4) 140737488355328) (
 let v34 : (List Int) := (r1 ++ [v33])
 .ret v34) .fail)))))))))))
noncomputable def bautaref15_Words_j11 (N : Nat) (t1 : (List Int)) (t2 : (List Int)) (t11 : Int) (t12 : Int) (r1 : (List Int)) (r2a : Int) (r2d : Int) : Option (List Int) := (bautaref15_Words_j11_T N t1 t2 t11 t12 r1 r2a r2d).run some
noncomputable def bautaref15_Words_l5_T (N : Nat) (t1 : (List Int)) (t2 : (List Int)) (r0a : (List (Int × (Int × (Int × (Int × Bool)))))) (t8 : Int) (r1 : (List Int)) : Tree ((Int × (List Int)) ⊕ (List Int)) :=
 let v1 : Int := (r0a.length : Int)
 let v2 : Bool := (ltI t8 v1)
 .br v2 (
 .br (inRange t8 r0a.length) (
 let v3 : (Int × (Int × (Int × (Int × Bool)))) := (r0a.getD t8.toNat (0, (0, (0, (0, false)))))
 let v4 : Bool := (ltI 0 t8)
 .br v4 (
 .br (inRange v3.2.1 r1.length) (
 let v5 : Int := (r1.getD v3.2.1.toNat 0)
 .br (inRange v3.2.2.1 r1.length) (
 let v6 : Int := (r1.getD v3.2.2.1.toNat 0)
 .call (bautaref15_Words_j11 N t1 t2 v5 v6 r1 v3.1 v3.2.2.2.1) fun y7 => (
 let v8 : Int := (IntKind.i64.wrap (t8 + 1))
 .ret (.inl (v8, y7)))) .fail) .fail) (
 .call (bautaref15_Words_j11 N t1 t2 0 0 r1 v3.1 v3.2.2.2.1) fun y9 => (
 let v10 : Int := (IntKind.i64.wrap (t8 + 1))
 .ret (.inl (v10, y9))))) .fail) (
 .ret (.inr r1))
noncomputable def bautaref15_Words_l5 (N : Nat) (t1 : (List Int)) (t2 : (List Int)) (r0a : (List (Int × (Int × (Int × (Int × Bool)))))) (v : (Int × (List Int))) : Option (List Int) := loopN (fun v => bautaref15_Words_l5_T N t1 t2 r0a v.1 v.2) N v
noncomputable def bautaref15_Words_T (N : Nat) (t0a : (List (Int × (Int × (Int × (Int × Bool)))))) (t0b : Int) (t0c : Int) (t0d : (List (ByteArray × Int))) (t1 : (List Int)) (t2 : (List Int)) : Tree (List Int) :=
 .call (bautaref15_Can N t0a t0b t0c t0d) fun y1 => (
 let v2 : Bool := (!y1)
 .br v2 (
 .ret []) (
 .call (bautaref15_Words_l5 N t1 t2 t0a (0, [])) fun y3 => (
 .ret y3)))
noncomputable def bautaref15_Words (N : Nat) (t0a : (List (Int × (Int × (Int × (Int × Bool)))))) (t0b : Int) (t0c : Int) (t0d : (List (ByteArray × Int))) (t1 : (List Int)) (t2 : (List Int)) : Option (List Int) := (bautaref15_Words_T N t0a t0b t0c t0d t1 t2).run some
/-! ### bauta/bautaref05.Same -/
noncomputable def bautaref05_Same_l4_T (N : Nat) (t0 : (List Int)) (t1 : (List Int)) (t5 : Int) : Tree (Int ⊕ (Unit ⊕ Unit)) :=
 let v1 : Int := (t0.length : Int)
 let v2 : Bool := (ltI t5 v1)
 .br v2 (
 .br (inRange t5 t0.length) (
 let v3 : Int := (t0.getD t5.toNat 0)
 .br (inRange t5 t1.length) (
 let v4 : Int := (t1.getD t5.toNat 0)
 let v5 : Bool := (v3 != v4)
 .br v5 (
 .ret (.inr (.inl ()))) (
 let v6 : Int := (IntKind.i64.wrap (t5 + 1))
 .ret (.inl v6))) .fail) .fail) (
 .ret (.inr (.inr ())))
noncomputable def bautaref05_Same_l4 (N : Nat) (t0 : (List Int)) (t1 : (List Int)) (v : Int) : Option (Unit ⊕ Unit) := loopN (fun v => bautaref05_Same_l4_T N t0 t1 v) N v
noncomputable def bautaref05_Same_T (N : Nat) (t0 : (List Int)) (t1 : (List Int)) : Tree Bool :=
 let v1 : Int := (t0.length : Int)
 let v2 : Int := (t1.length : Int)
 let v3 : Bool := (v1 != v2)
 .br v3 (
 .ret false) (
 .call (bautaref05_Same_l4 N t0 t1 0) fun y4 => (
 .alt y4 (fun y5 => (
 .ret false)) (fun y6 => (
 .ret true))))
noncomputable def bautaref05_Same (N : Nat) (t0 : (List Int)) (t1 : (List Int)) : Option Bool := (bautaref05_Same_T N t0 t1).run some
/-! ### bauta/bautaref15.Outs -/
noncomputable def bautaref15_Outs_j5_T (N : Nat) (t9 : Int) (r0d : (List (ByteArray × Int))) (r1 : (List Int)) (r2 : (List Int)) : Tree (Int × (List Int)) :=
 .br (inRange t9 r0d.length) (
 let v1 : (ByteArray × Int) := (r0d.getD t9.toNat (ByteArray.empty, 0))
 .br (inRange v1.2 r1.length) (
 let v2 : Int := (r1.getD v1.2.toNat 0)
 .br (ltI (((r2.length : Int) + 1) * 4) 140737488355328) (
 let v3 : (List Int) := (r2 ++ [v2])
 let v4 : Int := (IntKind.i64.wrap (t9 + 1))
 .ret (v4, v3)) .fail) .fail) .fail
noncomputable def bautaref15_Outs_j5 (N : Nat) (t9 : Int) (r0d : (List (ByteArray × Int))) (r1 : (List Int)) (r2 : (List Int)) : Option (Int × (List Int)) := (bautaref15_Outs_j5_T N t9 r0d r1 r2).run some
noncomputable def bautaref15_Outs_l3_T (N : Nat) (r0a : (List (Int × (Int × (Int × (Int × Bool)))))) (r0b : Int) (r0c : Int) (r0d : (List (ByteArray × Int))) (r1 : (List Int)) (t9 : Int) (r2 : (List Int)) : Tree ((Int × (List Int)) ⊕ (List Int)) :=
 let v1 : Int := (r0d.length : Int)
 let v2 : Bool := (ltI t9 v1)
 .br v2 (
 let v3 : Int := (r1.length : Int)
 let v4 : Int := (r0a.length : Int)
 let v5 : Bool := (v3 == v4)
 .br v5 (
 .call (bautaref15_Can N r0a r0b r0c r0d) fun y6 => (
 .br y6 (
 .call (bautaref15_Outs_j5 N t9 r0d r1 r2) fun y7 => (
 .ret (.inl (y7.1, y7.2)))) (
 .ret (.inr r2)))) (
 .ret (.inr r2))) (
 .ret (.inr r2))
noncomputable def bautaref15_Outs_l3 (N : Nat) (r0a : (List (Int × (Int × (Int × (Int × Bool)))))) (r0b : Int) (r0c : Int) (r0d : (List (ByteArray × Int))) (r1 : (List Int)) (v : (Int × (List Int))) : Option (List Int) := loopN (fun v => bautaref15_Outs_l3_T N r0a r0b r0c r0d r1 v.1 v.2) N v
noncomputable def bautaref15_Outs_T (N : Nat) (t0a : (List (Int × (Int × (Int × (Int × Bool)))))) (t0b : Int) (t0c : Int) (t0d : (List (ByteArray × Int))) (t1 : (List Int)) (t2 : (List Int)) : Tree (List Int) :=
 .call (bautaref15_Words N t0a t0b t0c t0d t1 t2) fun y1 => (
 .call (bautaref15_Outs_l3 N t0a t0b t0c t0d y1 (0, [])) fun y2 => (
 .ret y2))
noncomputable def bautaref15_Outs (N : Nat) (t0a : (List (Int × (Int × (Int × (Int × Bool)))))) (t0b : Int) (t0c : Int) (t0d : (List (ByteArray × Int))) (t1 : (List Int)) (t2 : (List Int)) : Option (List Int) := (bautaref15_Outs_T N t0a t0b t0c t0d t1 t2).run some
/-! ### bauta/bautalaw15.CircWords -/
noncomputable def bautalaw15_CircWords_T (N : Nat) (t0a : (List (Int × (Int × (Int × (Int × Bool)))))) (t0b : Int) (t0c : Int) (t0d : (List (ByteArray × Int))) (t1 : (List Int)) (t2 : (List Int)) : Tree Bool :=
 .call (bautalaw15_short N t1) fun y1 => (
 .call (bautalaw15_short N t2) fun y2 => (
 .call (bautalaw15_Small N t0a t0d) fun y3 => (
 let v4 : Bool := (!y3)
 .br v4 (
 .call (bautalaw15_lives N) fun y5 => (
 .ret y5)) (
 .call (bautaref15_Own N t0a t0d) fun y6 => (
 .call (circ_Words N t0a t0b t0c t0d y1 y2) fun y7 => (
 .call (bautaref15_Words N t0a t0b t0c t0d y1 y2) fun y8 => (
 .call (bautaref05_Same N y7 y8) fun y9 => (
 .br y9 (
 .call (circ_Outs N t0a t0b t0c t0d y1 y2) fun y10 => (
 .call (bautaref15_Outs N t0a t0b t0c t0d y1 y2) fun y11 => (
 .call (bautaref05_Same N y10 y11) fun y12 => (
 .br y12 (
 .call (bautalaw15_lives N) fun y13 => (
 .ret y13)) (
 .ret false))))) (
 .ret false)))))))))
noncomputable def bautalaw15_CircWords (N : Nat) (t0a : (List (Int × (Int × (Int × (Int × Bool)))))) (t0b : Int) (t0c : Int) (t0d : (List (ByteArray × Int))) (t1 : (List Int)) (t2 : (List Int)) : Option Bool := (bautalaw15_CircWords_T N t0a t0b t0c t0d t1 t2).run some
/-! ### bauta/bautalaw15.CircOpen -/
noncomputable def bautalaw15_CircOpen_l7_T (N : Nat) (r0a : (List (Int × (Int × (Int × (Int × Bool)))))) (r1 : (List Int)) (r2 : (List Int)) (t9 : Int) : Tree (Int ⊕ (Unit ⊕ Unit)) :=
 let v1 : Int := (r1.length : Int)
 let v2 : Bool := (ltI t9 v1)
 .br v2 (
 .br (inRange t9 r0a.length) (
 let v3 : (Int × (Int × (Int × (Int × Bool)))) := (r0a.getD t9.toNat (0, (0, (0, (0, false)))))
 let v4 : Bool := (!v3.2.2.2.2)
 .br v4 (
 .br (inRange t9 r1.length) (
 let v5 : Int := (r1.getD t9.toNat 0)
 .br (inRange t9 r2.length) (
 let v6 : Int := (r2.getD t9.toNat 0)
 let v7 : Bool := (v5 != v6)
 .br v7 (
 .ret (.inr (.inl ()))) (
 let v8 : Int := (IntKind.i64.wrap (t9 + 1))
 .ret (.inl v8))) .fail) .fail) (
 let v9 : Int := (IntKind.i64.wrap (t9 + 1))
 .ret (.inl v9))) .fail) (
 .ret (.inr (.inr ())))
noncomputable def bautalaw15_CircOpen_l7 (N : Nat) (r0a : (List (Int × (Int × (Int × (Int × Bool)))))) (r1 : (List Int)) (r2 : (List Int)) (v : Int) : Option (Unit ⊕ Unit) := loopN (fun v => bautalaw15_CircOpen_l7_T N r0a r1 r2 v) N v
noncomputable def bautalaw15_CircOpen_j6_T (N : Nat) (r0a : (List (Int × (Int × (Int × (Int × Bool)))))) (r1 : (List Int)) (r2 : (List Int)) : Tree Bool :=
 .call (bautalaw15_CircOpen_l7 N r0a r1 r2 0) fun y1 => (
 .alt y1 (fun y2 => (
 .ret false)) (fun y3 => (
 .call (bautalaw15_lives N) fun y4 => (
 .ret y4))))
noncomputable def bautalaw15_CircOpen_j6 (N : Nat) (r0a : (List (Int × (Int × (Int × (Int × Bool)))))) (r1 : (List Int)) (r2 : (List Int)) : Option Bool := (bautalaw15_CircOpen_j6_T N r0a r1 r2).run some
noncomputable def bautalaw15_CircOpen_j3_T (N : Nat) (t2 : (List Int)) (r0a : (List (Int × (Int × (Int × (Int × Bool)))))) (r0b : Int) (r0c : Int) (r0d : (List (ByteArray × Int))) (r1a : (List Int)) (r1b : (List Int)) : Tree Bool :=
 .call (bautalaw15_short N r1a) fun y1 => (
 .call (bautalaw15_short N t2) fun y2 => (
 .call (circ_Words N r0a r0b r0c r0d y1 y2) fun y3 => (
 .call (bautalaw15_short N r1b) fun y4 => (
 .call (bautalaw15_short N t2) fun y5 => (
 .call (circ_Words N r0a r0b r0c r0d y4 y5) fun y6 => (
 let v7 : Int := (y3.length : Int)
 let v8 : Int := (r0a.length : Int)
 let v9 : Bool := (v7 != v8)
 .br v9 (
 .ret false) (
 let v10 : Int := (y6.length : Int)
 let v11 : Int := (y3.length : Int)
 let v12 : Bool := (v10 != v11)
 .br v12 (
 .ret false) (
 .call (bautalaw15_CircOpen_j6 N r0a y3 y6) fun y13 => (
 .ret y13)))))))))
noncomputable def bautalaw15_CircOpen_j3 (N : Nat) (t2 : (List Int)) (r0a : (List (Int × (Int × (Int × (Int × Bool)))))) (r0b : Int) (r0c : Int) (r0d : (List (ByteArray × Int))) (r1a : (List Int)) (r1b : (List Int)) : Option Bool := (bautalaw15_CircOpen_j3_T N t2 r0a r0b r0c r0d r1a r1b).run some
noncomputable def bautalaw15_CircOpen_T (N : Nat) (t0a : (List (Int × (Int × (Int × (Int × Bool)))))) (t0b : Int) (t0c : Int) (t0d : (List (ByteArray × Int))) (t1a : (List Int)) (t1b : (List Int)) (t2 : (List Int)) : Tree Bool :=
 .call (bautalaw15_Small N t0a t0d) fun y1 => (
 let v2 : Bool := (!y1)
 .br v2 (
 .call (bautalaw15_lives N) fun y3 => (
 .ret y3)) (
 .call (bautaref15_Can N t0a t0b t0c t0d) fun y4 => (
 let v5 : Bool := (!y4)
 .br v5 (
 .call (bautalaw15_lives N) fun y6 => (
 .ret y6)) (
 .call (bautalaw15_CircOpen_j3 N t2 t0a t0b t0c t0d t1a t1b) fun y7 => (
 .ret y7)))))
noncomputable def bautalaw15_CircOpen (N : Nat) (t0a : (List (Int × (Int × (Int × (Int × Bool)))))) (t0b : Int) (t0c : Int) (t0d : (List (ByteArray × Int))) (t1a : (List Int)) (t1b : (List Int)) (t2 : (List Int)) : Option Bool := (bautalaw15_CircOpen_T N t0a t0b t0c t0d t1a t1b t2).run some
end Go.Proofs.YtgajjcehnpaooaaGreatDoorV
