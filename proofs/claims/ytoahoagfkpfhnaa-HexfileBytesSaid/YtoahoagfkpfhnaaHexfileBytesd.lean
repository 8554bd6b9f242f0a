/- HexfileBytes: what the functions come to (printed by wip/ext.py). -/
import Derived.Test.YtoahoagfkpfhnaaVx
namespace Go.Proofs.YtoahoagfkpfhnaaV
open Go.RowKit
set_option linter.unusedVariables false
set_option maxRecDepth 100000
/-! ### bauta/hexfile.Bytes -/
def f9_hexfile_Bytes_l3_in : SPat := ⟨[(3, .own 0 1), (2, .val (.list (.int .u16))), (0, .val (.int .i64)), (0, .val (.int .i64))], 13, [(0, ⟨5, 1, .list (.int .u8)⟩)], 1⟩
def f9_hexfile_Bytes_l3_out : Outs := (.one (.exit 0) ⟨[(3, .own 0 1)], 18, [(0, ⟨5, 1, .list (.int .u8)⟩)], 1⟩)
def f9_hexfile_Bytes_l3_T (N : Nat) (p_a : (List Int)) (p_a_2 : Int) (p_a_3 : Int) (p_r0 : (List Int)) : Tree (f9_hexfile_Bytes_l3_in.X ⊕ f9_hexfile_Bytes_l3_out.Y) :=
  let v1 : Bool := (ltI p_a_3 p_a_2)
  .br v1 (
    .br (inRange p_a_3 p_a.length) (
    let v2 : Int := (p_a.getD p_a_3.toNat 0)
    let v3 : Int := (IntKind.u8.wrap v2)
    let v4 : Int := (v2.fdiv (2 ^ 8))
    let v5 : Int := (IntKind.u8.wrap v4)
    .br (ltI (((p_r0.length : Int) + 2) * 1) 140737488355328) (
    let v6 : (List Int) := (p_r0 ++ [v3, v5])
    let v7 : Int := (IntKind.i64.wrap (p_a_3 + 1))
    .ret (.inl (p_a, p_a_2, v7, v6, ()))) .fail) .fail) (
    .ret (.inr (p_r0, ())))
def f9_hexfile_Bytes_l3_S (N : Nat) (x : f9_hexfile_Bytes_l3_in.X) : Tree (f9_hexfile_Bytes_l3_in.X ⊕ f9_hexfile_Bytes_l3_out.Y) := f9_hexfile_Bytes_l3_T N x.1 x.2.1 x.2.2.1 x.2.2.2.1
def f9_hexfile_Bytes_l3 (N : Nat) : f9_hexfile_Bytes_l3_in.X → Option f9_hexfile_Bytes_l3_out.Y := loopN (f9_hexfile_Bytes_l3_S N) N
def f9_hexfile_Bytes_T (N : Nat) (p_code : (List Int)) : Tree (Pat.tele (.own 0 1) (MPat.tele [(0, ⟨5, 1, .list (.int .u8)⟩)] Unit)) :=
  let v1 : Int := (p_code.length : Int)
  .call (f9_hexfile_Bytes_l3 N (p_code, v1, 0, [], ())) fun y2 => (
  .ret (y2.1, ()))
def f9_hexfile_Bytes_F (N : Nat) (x : Pat.teleL [.val (.list (.int .u16))] (MPat.tele [] Unit)) : Option (Pat.tele (.own 0 1) (MPat.tele [(0, ⟨5, 1, .list (.int .u8)⟩)] Unit)) := (f9_hexfile_Bytes_T N x.1).run some
def f9_hexfile_Bytes_E (N : Nat) : FE := ⟨9, [.val (.list (.int .u16))], [], .own 0 1, [(0, ⟨5, 1, .list (.int .u8)⟩)], f9_hexfile_Bytes_F N⟩
/-! ### bauta/bautalaw31.lives -/
def f10_bautalaw31_lives_F (N : Nat) (x : Pat.teleL [] (MPat.tele [] Unit)) : Option (Pat.tele (.val .bool) (MPat.tele [] Unit)) := some (true, ())
def f10_bautalaw31_lives_E (N : Nat) : FE := ⟨10, [], [], .val .bool, [], f10_bautalaw31_lives_F N⟩
/-! ### bauta/bautalaw31.HexfileBytes -/
def f3_bautalaw31_HexfileBytes_j3_in : SPat := ⟨[(0, .val (.list (.int .u16)))], 47, [], 0⟩
def f3_bautalaw31_HexfileBytes_j3_out : Outs := (.one (.ret) ⟨[(2, .val .bool)], 45, [], 0⟩)
def f3_bautalaw31_HexfileBytes_l7_in : SPat := ⟨[(0, .val (.list (.int .u16))), (2, .own 0 1), (0, .val (.int .i64))], 43, [(0, ⟨5, 1, .list (.int .u8)⟩)], 1⟩
def f3_bautalaw31_HexfileBytes_l7_out : Outs := (.or (.ret) ⟨[(2, .val .bool)], 45, [], 0⟩ (.one (.exit 0) ⟨[], 48, [], 0⟩))
def f3_bautalaw31_HexfileBytes_l7_T (N : Nat) (p_code : (List Int)) (p_i : Int) (p_r0 : (List Int)) : Tree (f3_bautalaw31_HexfileBytes_l7_in.X ⊕ f3_bautalaw31_HexfileBytes_l7_out.Y) :=
  let v1 : Int := (p_code.length : Int)
  let v2 : Bool := (ltI p_i v1)
  .br v2 (
    let v3 : Int := (IntKind.i64.wrap (2 * p_i))
    .br (inRange v3 p_r0.length) (
    let v4 : Int := (p_r0.getD v3.toNat 0)
    let v5 : Int := (IntKind.i64.wrap v4)
    let v6 : Int := (IntKind.i64.wrap (2 * p_i))
    let v7 : Int := (IntKind.i64.wrap (v6 + 1))
    .br (inRange v7 p_r0.length) (
    let v8 : Int := (p_r0.getD v7.toNat 0)
    let v9 : Int := (IntKind.i64.wrap v8)
    let v10 : Int := (IntKind.i64.wrap (256 * v9))
    let v11 : Int := (IntKind.i64.wrap (v5 + v10))
    .br (inRange p_i p_code.length) (
    let v12 : Int := (p_code.getD p_i.toNat 0)
    let v13 : Int := (IntKind.i64.wrap v12)
    let v14 : Bool := (v11 != v13)
    .br v14 (
      .ret (.inr (.inl (false, ())))) (
      let v15 : Int := (IntKind.i64.wrap (p_i + 1))
      .ret (.inl (p_code, v15, p_r0, ())))) .fail) .fail) .fail) (
    .ret (.inr (.inr ())))
def f3_bautalaw31_HexfileBytes_l7_S (N : Nat) (x : f3_bautalaw31_HexfileBytes_l7_in.X) : Tree (f3_bautalaw31_HexfileBytes_l7_in.X ⊕ f3_bautalaw31_HexfileBytes_l7_out.Y) := f3_bautalaw31_HexfileBytes_l7_T N x.1 x.2.1 x.2.2.1
def f3_bautalaw31_HexfileBytes_l7 (N : Nat) : f3_bautalaw31_HexfileBytes_l7_in.X → Option f3_bautalaw31_HexfileBytes_l7_out.Y := loopN (f3_bautalaw31_HexfileBytes_l7_S N) N
def f3_bautalaw31_HexfileBytes_j3_T (N : Nat) (p_code : (List Int)) : Tree (f3_bautalaw31_HexfileBytes_j3_out.Y) :=
  .br (ltI ((0 + (p_code.length : Int)) * 2) 140737488355328) (
  .call (f9_hexfile_Bytes_F N (p_code, ())) fun y1 => (
  let v2 : Int := (y1.1.length : Int)
  let v3 : Int := (p_code.length : Int)
  let v4 : Int := (IntKind.i64.wrap (2 * v3))
  let v5 : Bool := (v2 != v4)
  .br v5 (
    .ret (false, ())) (
    .call (f3_bautalaw31_HexfileBytes_l7 N (p_code, 0, y1.1, ())) fun y6 => (
    .alt y6 (fun y7 => (
      .ret (y7.1, ()))) (fun y8 => (
      .call (f10_bautalaw31_lives_F N ()) fun y9 => (
      .ret (y9.1, ())))))))) .fail
def f3_bautalaw31_HexfileBytes_j3 (N : Nat) : f3_bautalaw31_HexfileBytes_j3_in.X → Option f3_bautalaw31_HexfileBytes_j3_out.Y := fun x => (f3_bautalaw31_HexfileBytes_j3_T N x.1).run some
def f3_bautalaw31_HexfileBytes_T (N : Nat) (p_code : (List Int)) : Tree (Pat.tele (.val .bool) (MPat.tele [] Unit)) :=
  let v1 : Int := (p_code.length : Int)
  let v2 : Bool := (ltI 1000 v1)
  .br v2 (
    .br (leI 0 1000 && leI 1000 (p_code.length : Int)) (
    let v3 : (List Int) := (p_code.take 1000)
    .call (f3_bautalaw31_HexfileBytes_j3 N (v3, ())) fun y4 => (
    .ret (y4.1, ()))) .fail) (
    .call (f3_bautalaw31_HexfileBytes_j3 N (p_code, ())) fun y5 => (
    .ret (y5.1, ())))
def f3_bautalaw31_HexfileBytes_F (N : Nat) (x : Pat.teleL [.val (.list (.int .u16))] (MPat.tele [] Unit)) : Option (Pat.tele (.val .bool) (MPat.tele [] Unit)) := (f3_bautalaw31_HexfileBytes_T N x.1).run some
def f3_bautalaw31_HexfileBytes_E (N : Nat) : FE := ⟨3, [.val (.list (.int .u16))], [], .val .bool, [], f3_bautalaw31_HexfileBytes_F N⟩
end Go.Proofs.YtoahoagfkpfhnaaV
