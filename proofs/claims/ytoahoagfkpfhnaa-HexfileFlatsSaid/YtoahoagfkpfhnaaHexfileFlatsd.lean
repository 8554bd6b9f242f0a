/- HexfileFlats: what the functions come to (printed by wip/ext.py). -/
import Derived.Test.YtoahoagfkpfhnaaVx
namespace Go.Proofs.YtoahoagfkpfhnaaV
open Go.RowKit
set_option linter.unusedVariables false
set_option maxRecDepth 100000
/-! ### bauta/bautalaw31.short -/
def f11_bautalaw31_short_T (N : Nat) (p_b : (List Int)) : Tree (Pat.tele (.val (.list (.int .u8))) (MPat.tele [] Unit)) :=
  let v1 : Int := (p_b.length : Int)
  let v2 : Bool := (ltI 700 v1)
  .br v2 (
    .br (leI 0 700 && leI 700 (p_b.length : Int)) (
    let v3 : (List Int) := (p_b.take 700)
    .br (ltI ((0 + (v3.length : Int)) * 1) 140737488355328) (
    .ret (v3, ())) .fail) .fail) (
    .br (ltI ((0 + (p_b.length : Int)) * 1) 140737488355328) (
    .ret (p_b, ())) .fail)
def f11_bautalaw31_short_F (N : Nat) (x : Pat.teleL [.val (.list (.int .u8))] (MPat.tele [] Unit)) : Option (Pat.tele (.val (.list (.int .u8))) (MPat.tele [] Unit)) := (f11_bautalaw31_short_T N x.1).run some
def f11_bautalaw31_short_E (N : Nat) : FE := ⟨11, [.val (.list (.int .u8))], [], .val (.list (.int .u8)), [], f11_bautalaw31_short_F N⟩
/-! ### bauta/hexfile.Flat -/
def f12_hexfile_Flat_j3_in : SPat := ⟨[(0, .val (.list (.prod (.int .u32) (.list (.int .u8))))), (0, .val (.int .u32)), (0, .val (.int .i64))], 65, [], 0⟩
def f12_hexfile_Flat_j3_out : Outs := (.one (.ret) ⟨[(6, .own 0 1)], 61, [(0, ⟨5, 1, .list (.int .u8)⟩)], 1⟩)
def f12_hexfile_Flat_l5_in : SPat := ⟨[(1, .val (.int .u32)), (0, .val (.int .i64)), (4, .own 0 1), (13, .val (.list (.prod (.int .u32) (.list (.int .u8))))), (0, .val (.int .i64)), (0, .val (.int .i64))], 44, [(0, ⟨5, 1, .list (.int .u8)⟩)], 1⟩
def f12_hexfile_Flat_l5_out : Outs := (.one (.exit 0) ⟨[(7, .own 0 1)], 60, [(0, ⟨5, 1, .list (.int .u8)⟩)], 1⟩)
def f12_hexfile_Flat_l8_in : SPat := ⟨[(1, .val (.int .u32)), (0, .val (.int .i64)), (4, .own 0 1), (1, .ptr0 1 2 0), (11, .val (.list (.prod (.int .u32) (.list (.int .u8))))), (0, .val (.int .i64)), (0, .val (.int .i64)), (4, .val (.list (.int .u8))), (0, .val (.int .i64)), (0, .val (.int .i64))], 37, [(0, ⟨5, 1, .list (.int .u8)⟩), (1, ⟨31, 2, .cells [.val (.int .u32), .val (.list (.int .u8))]⟩)], 2⟩
def f12_hexfile_Flat_l8_out : Outs := (.one (.exit 2) ⟨[(1, .val (.int .u32)), (0, .val (.int .i64)), (4, .own 0 1), (13, .val (.list (.prod (.int .u32) (.list (.int .u8))))), (0, .val (.int .i64)), (0, .val (.int .i64))], 44, [(0, ⟨5, 1, .list (.int .u8)⟩)], 1⟩)
def f12_hexfile_Flat_j12_in : SPat := ⟨[(1, .val (.int .u32)), (0, .val (.int .i64)), (4, .own 0 1), (1, .ptr0 1 2 0), (1, .val (.int .u8)), (0, .val (.int .u64)), (8, .val (.list (.prod (.int .u32) (.list (.int .u8))))), (0, .val (.int .i64)), (0, .val (.int .i64)), (4, .val (.list (.int .u8))), (0, .val (.int .i64)), (0, .val (.int .i64)), (26, .val .bool)], 10, [(0, ⟨5, 1, .list (.int .u8)⟩), (1, ⟨31, 2, .cells [.val (.int .u32), .val (.list (.int .u8))]⟩)], 2⟩
def f12_hexfile_Flat_j12_out : Outs := (.one (.normal) ⟨[(1, .val (.int .u32)), (0, .val (.int .i64)), (4, .own 0 1), (1, .ptr0 1 2 0), (11, .val (.list (.prod (.int .u32) (.list (.int .u8))))), (0, .val (.int .i64)), (0, .val (.int .i64)), (4, .val (.list (.int .u8))), (0, .val (.int .i64)), (0, .val (.int .i64))], 37, [(0, ⟨5, 1, .list (.int .u8)⟩), (1, ⟨31, 2, .cells [.val (.int .u32), .val (.list (.int .u8))]⟩)], 2⟩)
def f12_hexfile_Flat_j12_T (N : Nat) (p_a : Int) (p_a_2 : Int) (p_a_3 : Int) (p_a_4 : Int) (p_a_5 : (List (Int × (List Int)))) (p_a_6 : Int) (p_a_7 : Int) (p_a_8 : (List Int)) (p_a_9 : Int) (p_a_10 : Int) (p_a_11 : Bool) (p_r0 : (List Int)) (p_r1 : Int) (p_r1_2 : (List Int)) : Tree (f12_hexfile_Flat_j12_out.Y) :=
  .br p_a_11 (
    let v1 : Int := (IntKind.u64.wrap p_a)
    let v2 : Int := (IntKind.u64.wrap (p_a_4 - v1))
    .br (inRange v2 p_r0.length) (
    let v3 : (List Int) := (p_r0.set v2.toNat p_a_3)
    .ret (p_a, p_a_2, p_a_5, p_a_6, p_a_7, p_a_8, p_a_9, p_a_10, v3, p_r1, p_r1_2, ())) .fail) (
    .ret (p_a, p_a_2, p_a_5, p_a_6, p_a_7, p_a_8, p_a_9, p_a_10, p_r0, p_r1, p_r1_2, ()))
def f12_hexfile_Flat_j12 (N : Nat) : f12_hexfile_Flat_j12_in.X → Option f12_hexfile_Flat_j12_out.Y := fun x => (f12_hexfile_Flat_j12_T N x.1 x.2.1 x.2.2.1 x.2.2.2.1 x.2.2.2.2.1 x.2.2.2.2.2.1 x.2.2.2.2.2.2.1 x.2.2.2.2.2.2.2.1 x.2.2.2.2.2.2.2.2.1 x.2.2.2.2.2.2.2.2.2.1 x.2.2.2.2.2.2.2.2.2.2.1 x.2.2.2.2.2.2.2.2.2.2.2.1 x.2.2.2.2.2.2.2.2.2.2.2.2.1 x.2.2.2.2.2.2.2.2.2.2.2.2.2.1).run some
def f12_hexfile_Flat_l8_T (N : Nat) (p_a : Int) (p_a_2 : Int) (p_a_3 : (List (Int × (List Int)))) (p_a_4 : Int) (p_a_5 : Int) (p_a_6 : (List Int)) (p_a_7 : Int) (p_a_8 : Int) (p_r0 : (List Int)) (p_r1 : Int) (p_r1_2 : (List Int)) : Tree (f12_hexfile_Flat_l8_in.X ⊕ f12_hexfile_Flat_l8_out.Y) :=
  let v1 : Bool := (ltI p_a_8 p_a_7)
  .br v1 (
    .br (inRange p_a_8 p_a_6.length) (
    let v2 : Int := (p_a_6.getD p_a_8.toNat 0)
    let v3 : Int := (IntKind.u64.wrap p_r1)
    let v4 : Int := (IntKind.u64.wrap p_a_8)
    let v5 : Int := (IntKind.u64.wrap (v3 + v4))
    let v6 : Int := (IntKind.u64.wrap p_a)
    let v7 : Bool := (leI v6 v5)
    .br v7 (
      let v8 : Int := (IntKind.u64.wrap p_a)
      let v9 : Int := (IntKind.u64.wrap (v5 - v8))
      let v10 : Int := (IntKind.u64.wrap p_a_2)
      let v11 : Bool := (ltI v9 v10)
      .br v11 (
        let v12 : Bool := (ltI v5 4294967296)
        .call (f12_hexfile_Flat_j12 N (p_a, p_a_2, v2, v5, p_a_3, p_a_4, p_a_5, p_a_6, p_a_7, p_a_8, v12, p_r0, p_r1, p_r1_2, ())) fun y13 => (
        let v14 : Int := (IntKind.i64.wrap (y13.2.2.2.2.2.2.2.1 + 1))
        .ret (.inl (y13.1, y13.2.1, y13.2.2.1, y13.2.2.2.1, y13.2.2.2.2.1, y13.2.2.2.2.2.1, y13.2.2.2.2.2.2.1, v14, y13.2.2.2.2.2.2.2.2.1, y13.2.2.2.2.2.2.2.2.2.1, y13.2.2.2.2.2.2.2.2.2.2.1, ())))) (
        .call (f12_hexfile_Flat_j12 N (p_a, p_a_2, v2, v5, p_a_3, p_a_4, p_a_5, p_a_6, p_a_7, p_a_8, false, p_r0, p_r1, p_r1_2, ())) fun y15 => (
        let v16 : Int := (IntKind.i64.wrap (y15.2.2.2.2.2.2.2.1 + 1))
        .ret (.inl (y15.1, y15.2.1, y15.2.2.1, y15.2.2.2.1, y15.2.2.2.2.1, y15.2.2.2.2.2.1, y15.2.2.2.2.2.2.1, v16, y15.2.2.2.2.2.2.2.2.1, y15.2.2.2.2.2.2.2.2.2.1, y15.2.2.2.2.2.2.2.2.2.2.1, ()))))) (
      .call (f12_hexfile_Flat_j12 N (p_a, p_a_2, v2, v5, p_a_3, p_a_4, p_a_5, p_a_6, p_a_7, p_a_8, false, p_r0, p_r1, p_r1_2, ())) fun y17 => (
      let v18 : Int := (IntKind.i64.wrap (y17.2.2.2.2.2.2.2.1 + 1))
      .ret (.inl (y17.1, y17.2.1, y17.2.2.1, y17.2.2.2.1, y17.2.2.2.2.1, y17.2.2.2.2.2.1, y17.2.2.2.2.2.2.1, v18, y17.2.2.2.2.2.2.2.2.1, y17.2.2.2.2.2.2.2.2.2.1, y17.2.2.2.2.2.2.2.2.2.2.1, ()))))) .fail) (
    .ret (.inr (p_a, p_a_2, p_a_3, p_a_4, p_a_5, p_r0, ())))
def f12_hexfile_Flat_l8_S (N : Nat) (x : f12_hexfile_Flat_l8_in.X) : Tree (f12_hexfile_Flat_l8_in.X ⊕ f12_hexfile_Flat_l8_out.Y) := f12_hexfile_Flat_l8_T N x.1 x.2.1 x.2.2.1 x.2.2.2.1 x.2.2.2.2.1 x.2.2.2.2.2.1 x.2.2.2.2.2.2.1 x.2.2.2.2.2.2.2.1 x.2.2.2.2.2.2.2.2.1 x.2.2.2.2.2.2.2.2.2.1 x.2.2.2.2.2.2.2.2.2.2.1
def f12_hexfile_Flat_l8 (N : Nat) : f12_hexfile_Flat_l8_in.X → Option f12_hexfile_Flat_l8_out.Y := loopN (f12_hexfile_Flat_l8_S N) N
def f12_hexfile_Flat_l5_T (N : Nat) (p_a : Int) (p_a_2 : Int) (p_a_3 : (List (Int × (List Int)))) (p_a_4 : Int) (p_a_5 : Int) (p_r0 : (List Int)) : Tree (f12_hexfile_Flat_l5_in.X ⊕ f12_hexfile_Flat_l5_out.Y) :=
  let v1 : Bool := (ltI p_a_5 p_a_4)
  .br v1 (
    .br (inRange p_a_5 p_a_3.length) (
    let v2 : (Int × (List Int)) := (p_a_3.getD p_a_5.toNat (0, []))
    let v3 : Int := (v2.2.length : Int)
    .call (f12_hexfile_Flat_l8 N (p_a, p_a_2, p_a_3, p_a_4, p_a_5, v2.2, v3, 0, p_r0, v2.1, v2.2, ())) fun y4 => (
    let v5 : Int := (IntKind.i64.wrap (y4.2.2.2.2.1 + 1))
    .ret (.inl (y4.1, y4.2.1, y4.2.2.1, y4.2.2.2.1, v5, y4.2.2.2.2.2.1, ())))) .fail) (
    .ret (.inr (p_r0, ())))
def f12_hexfile_Flat_l5_S (N : Nat) (x : f12_hexfile_Flat_l5_in.X) : Tree (f12_hexfile_Flat_l5_in.X ⊕ f12_hexfile_Flat_l5_out.Y) := f12_hexfile_Flat_l5_T N x.1 x.2.1 x.2.2.1 x.2.2.2.1 x.2.2.2.2.1 x.2.2.2.2.2.1
def f12_hexfile_Flat_l5 (N : Nat) : f12_hexfile_Flat_l5_in.X → Option f12_hexfile_Flat_l5_out.Y := loopN (f12_hexfile_Flat_l5_S N) N
def f12_hexfile_Flat_j3_T (N : Nat) (p_a : (List (Int × (List Int)))) (p_a_2 : Int) (p_a_3 : Int) : Tree (f12_hexfile_Flat_j3_out.Y) :=
  .br (leI 0 p_a_3 && (leI p_a_3 p_a_3 && (ltI (p_a_3 * 1) 140737488355328 && ltI p_a_3 140737488355328))) (
  let v1 : (List Int) := (List.replicate p_a_3.toNat 0)
  let v2 : Int := (p_a.length : Int)
  .call (f12_hexfile_Flat_l5 N (p_a_2, p_a_3, p_a, v2, 0, v1, ())) fun y3 => (
  .ret (y3.1, ()))) .fail
def f12_hexfile_Flat_j3 (N : Nat) : f12_hexfile_Flat_j3_in.X → Option f12_hexfile_Flat_j3_out.Y := fun x => (f12_hexfile_Flat_j3_T N x.1 x.2.1 x.2.2.1).run some
def f12_hexfile_Flat_T (N : Nat) (p_a : (List (Int × (List Int)))) (p_a_2 : Int) (p_a_3 : Int) : Tree (Pat.tele (.own 0 1) (MPat.tele [(0, ⟨5, 1, .list (.int .u8)⟩)] Unit)) :=
  let v1 : Bool := (ltI p_a_3 0)
  .br v1 (
    .ret ([], ())) (
    let v2 : Bool := (ltI 1048576 p_a_3)
    .br v2 (
      .ret ([], ())) (
      .call (f12_hexfile_Flat_j3 N (p_a, p_a_2, p_a_3, ())) fun y3 => (
      .ret (y3.1, ()))))
def f12_hexfile_Flat_F (N : Nat) (x : Pat.teleL [.val (.list (.prod (.int .u32) (.list (.int .u8)))), .val (.int .u32), .val (.int .i64)] (MPat.tele [] Unit)) : Option (Pat.tele (.own 0 1) (MPat.tele [(0, ⟨5, 1, .list (.int .u8)⟩)] Unit)) := (f12_hexfile_Flat_T N x.1 x.2.1 x.2.2.1).run some
def f12_hexfile_Flat_E (N : Nat) : FE := ⟨12, [.val (.list (.prod (.int .u32) (.list (.int .u8)))), .val (.int .u32), .val (.int .i64)], [], .own 0 1, [(0, ⟨5, 1, .list (.int .u8)⟩)], f12_hexfile_Flat_F N⟩
/-! ### bauta/bautaref31.Flat -/
def f13_bautaref31_Flat_j4_in : SPat := ⟨[(0, .val (.list (.prod (.int .u32) (.list (.int .u8))))), (0, .val (.int .u32)), (0, .val (.int .i64))], 73, [], 0⟩
def f13_bautaref31_Flat_j4_out : Outs := (.one (.ret) ⟨[(6, .own 0 1)], 69, [(0, ⟨5, 1, .list (.int .u8)⟩)], 1⟩)
def f13_bautaref31_Flat_l6_in : SPat := ⟨[(0, .val (.list (.prod (.int .u32) (.list (.int .u8))))), (0, .val (.int .u32)), (0, .val (.int .i64)), (4, .own 0 1), (0, .val (.int .i64))], 67, [(0, ⟨5, 1, .list (.int .u8)⟩)], 1⟩
def f13_bautaref31_Flat_l6_out : Outs := (.one (.exit 0) ⟨[(7, .own 0 1)], 68, [(0, ⟨5, 1, .list (.int .u8)⟩)], 1⟩)
def f13_bautaref31_Flat_l9_in : SPat := ⟨[(0, .val (.list (.prod (.int .u32) (.list (.int .u8))))), (0, .val (.int .u32)), (0, .val (.int .i64)), (4, .own 0 1), (0, .val (.int .i64)), (0, .val (.int .i64))], 66, [(0, ⟨5, 1, .list (.int .u8)⟩)], 1⟩
def f13_bautaref31_Flat_l9_out : Outs := (.one (.exit 2) ⟨[(0, .val (.list (.prod (.int .u32) (.list (.int .u8))))), (0, .val (.int .u32)), (0, .val (.int .i64)), (4, .own 0 1), (0, .val (.int .i64))], 67, [(0, ⟨5, 1, .list (.int .u8)⟩)], 1⟩)
def f13_bautaref31_Flat_j13_in : SPat := ⟨[(0, .val (.list (.prod (.int .u32) (.list (.int .u8))))), (0, .val (.int .u32)), (0, .val (.int .i64)), (4, .own 0 1), (0, .val (.int .i64)), (0, .val (.int .i64)), (0, .val (.int .i64)), (49, .val .bool)], 15, [(0, ⟨5, 1, .list (.int .u8)⟩)], 1⟩
def f13_bautaref31_Flat_j13_out : Outs := (.one (.normal) ⟨[(0, .val (.list (.prod (.int .u32) (.list (.int .u8))))), (0, .val (.int .u32)), (0, .val (.int .i64)), (4, .own 0 1), (0, .val (.int .i64)), (0, .val (.int .i64))], 66, [(0, ⟨5, 1, .list (.int .u8)⟩)], 1⟩)
def f13_bautaref31_Flat_j13_T (N : Nat) (p_a : (List (Int × (List Int)))) (p_a_2 : Int) (p_a_3 : Int) (p_a_4 : Int) (p_a_5 : Int) (p_a_6 : Int) (p_a_7 : Bool) (p_r0 : (List Int)) : Tree (f13_bautaref31_Flat_j13_out.Y) :=
  .br p_a_7 (
    let v1 : Int := (IntKind.i64.wrap p_a_2)
    let v2 : Int := (IntKind.i64.wrap (p_a_6 - v1))
    .br (inRange p_a_4 p_a.length) (
    let v3 : (Int × (List Int)) := (p_a.getD p_a_4.toNat (0, []))
    .br (inRange p_a_5 v3.2.length) (
    let v4 : Int := (v3.2.getD p_a_5.toNat 0)
    .br (inRange v2 p_r0.length) (
    let v5 : (List Int) := (p_r0.set v2.toNat v4)
    .ret (p_a, p_a_2, p_a_3, p_a_4, p_a_5, v5, ())) .fail) .fail) .fail) (
    .ret (p_a, p_a_2, p_a_3, p_a_4, p_a_5, p_r0, ()))
def f13_bautaref31_Flat_j13 (N : Nat) : f13_bautaref31_Flat_j13_in.X → Option f13_bautaref31_Flat_j13_out.Y := fun x => (f13_bautaref31_Flat_j13_T N x.1 x.2.1 x.2.2.1 x.2.2.2.1 x.2.2.2.2.1 x.2.2.2.2.2.1 x.2.2.2.2.2.2.1 x.2.2.2.2.2.2.2.1).run some
def f13_bautaref31_Flat_l9_T (N : Nat) (p_a : (List (Int × (List Int)))) (p_a_2 : Int) (p_a_3 : Int) (p_a_4 : Int) (p_a_5 : Int) (p_r0 : (List Int)) : Tree (f13_bautaref31_Flat_l9_in.X ⊕ f13_bautaref31_Flat_l9_out.Y) :=
  .br (inRange p_a_4 p_a.length) (
  let v1 : (Int × (List Int)) := (p_a.getD p_a_4.toNat (0, []))
  let v2 : Int := (v1.2.length : Int)
  let v3 : Bool := (ltI p_a_5 v2)
  .br v3 (
    .br (inRange p_a_4 p_a.length) (
    let v4 : (Int × (List Int)) := (p_a.getD p_a_4.toNat (0, []))
    let v5 : Int := (IntKind.i64.wrap v4.1)
    let v6 : Int := (IntKind.i64.wrap (v5 + p_a_5))
    let v7 : Bool := (leI v6 4294967295)
    .br v7 (
      let v8 : Int := (IntKind.i64.wrap p_a_2)
      let v9 : Bool := (leI v8 v6)
      .br v9 (
        let v10 : Int := (IntKind.i64.wrap p_a_2)
        let v11 : Int := (IntKind.i64.wrap (v6 - v10))
        let v12 : Bool := (ltI v11 p_a_3)
        .call (f13_bautaref31_Flat_j13 N (p_a, p_a_2, p_a_3, p_a_4, p_a_5, v6, v12, p_r0, ())) fun y13 => (
        let v14 : Int := (IntKind.i64.wrap (y13.2.2.2.2.1 + 1))
        .ret (.inl (y13.1, y13.2.1, y13.2.2.1, y13.2.2.2.1, v14, y13.2.2.2.2.2.1, ())))) (
        .call (f13_bautaref31_Flat_j13 N (p_a, p_a_2, p_a_3, p_a_4, p_a_5, v6, false, p_r0, ())) fun y15 => (
        let v16 : Int := (IntKind.i64.wrap (y15.2.2.2.2.1 + 1))
        .ret (.inl (y15.1, y15.2.1, y15.2.2.1, y15.2.2.2.1, v16, y15.2.2.2.2.2.1, ()))))) (
      .call (f13_bautaref31_Flat_j13 N (p_a, p_a_2, p_a_3, p_a_4, p_a_5, v6, false, p_r0, ())) fun y17 => (
      let v18 : Int := (IntKind.i64.wrap (y17.2.2.2.2.1 + 1))
      .ret (.inl (y17.1, y17.2.1, y17.2.2.1, y17.2.2.2.1, v18, y17.2.2.2.2.2.1, ()))))) .fail) (
    .ret (.inr (p_a, p_a_2, p_a_3, p_a_4, p_r0, ())))) .fail
def f13_bautaref31_Flat_l9_S (N : Nat) (x : f13_bautaref31_Flat_l9_in.X) : Tree (f13_bautaref31_Flat_l9_in.X ⊕ f13_bautaref31_Flat_l9_out.Y) := f13_bautaref31_Flat_l9_T N x.1 x.2.1 x.2.2.1 x.2.2.2.1 x.2.2.2.2.1 x.2.2.2.2.2.1
def f13_bautaref31_Flat_l9 (N : Nat) : f13_bautaref31_Flat_l9_in.X → Option f13_bautaref31_Flat_l9_out.Y := loopN (f13_bautaref31_Flat_l9_S N) N
def f13_bautaref31_Flat_l6_T (N : Nat) (p_a : (List (Int × (List Int)))) (p_a_2 : Int) (p_a_3 : Int) (p_a_4 : Int) (p_r0 : (List Int)) : Tree (f13_bautaref31_Flat_l6_in.X ⊕ f13_bautaref31_Flat_l6_out.Y) :=
  let v1 : Int := (p_a.length : Int)
  let v2 : Bool := (ltI p_a_4 v1)
  .br v2 (
    .call (f13_bautaref31_Flat_l9 N (p_a, p_a_2, p_a_3, p_a_4, 0, p_r0, ())) fun y3 => (
    let v4 : Int := (IntKind.i64.wrap (y3.2.2.2.1 + 1))
    .ret (.inl (y3.1, y3.2.1, y3.2.2.1, v4, y3.2.2.2.2.1, ())))) (
    .ret (.inr (p_r0, ())))
def f13_bautaref31_Flat_l6_S (N : Nat) (x : f13_bautaref31_Flat_l6_in.X) : Tree (f13_bautaref31_Flat_l6_in.X ⊕ f13_bautaref31_Flat_l6_out.Y) := f13_bautaref31_Flat_l6_T N x.1 x.2.1 x.2.2.1 x.2.2.2.1 x.2.2.2.2.1
def f13_bautaref31_Flat_l6 (N : Nat) : f13_bautaref31_Flat_l6_in.X → Option f13_bautaref31_Flat_l6_out.Y := loopN (f13_bautaref31_Flat_l6_S N) N
def f13_bautaref31_Flat_j4_T (N : Nat) (p_a : (List (Int × (List Int)))) (p_a_2 : Int) (p_a_3 : Int) : Tree (f13_bautaref31_Flat_j4_out.Y) :=
  .br (leI 0 p_a_3 && (leI p_a_3 p_a_3 && (ltI (p_a_3 * 1) 140737488355328 && ltI p_a_3 140737488355328))) (
  let v1 : (List Int) := (List.replicate p_a_3.toNat 0)
  .call (f13_bautaref31_Flat_l6 N (p_a, p_a_2, p_a_3, 0, v1, ())) fun y2 => (
  .ret (y2.1, ()))) .fail
def f13_bautaref31_Flat_j4 (N : Nat) : f13_bautaref31_Flat_j4_in.X → Option f13_bautaref31_Flat_j4_out.Y := fun x => (f13_bautaref31_Flat_j4_T N x.1 x.2.1 x.2.2.1).run some
def f13_bautaref31_Flat_T (N : Nat) (p_a : (List (Int × (List Int)))) (p_a_2 : Int) (p_a_3 : Int) : Tree (Pat.tele (.own 0 1) (MPat.tele [(0, ⟨5, 1, .list (.int .u8)⟩)] Unit)) :=
  let v1 : Bool := (ltI p_a_3 0)
  .br v1 (
    .ret ([], ())) (
    let v2 : Bool := (ltI 1048576 p_a_3)
    .br v2 (
      .ret ([], ())) (
      .call (f13_bautaref31_Flat_j4 N (p_a, p_a_2, p_a_3, ())) fun y3 => (
      .ret (y3.1, ()))))
def f13_bautaref31_Flat_F (N : Nat) (x : Pat.teleL [.val (.list (.prod (.int .u32) (.list (.int .u8)))), .val (.int .u32), .val (.int .i64)] (MPat.tele [] Unit)) : Option (Pat.tele (.own 0 1) (MPat.tele [(0, ⟨5, 1, .list (.int .u8)⟩)] Unit)) := (f13_bautaref31_Flat_T N x.1 x.2.1 x.2.2.1).run some
def f13_bautaref31_Flat_E (N : Nat) : FE := ⟨13, [.val (.list (.prod (.int .u32) (.list (.int .u8)))), .val (.int .u32), .val (.int .i64)], [], .own 0 1, [(0, ⟨5, 1, .list (.int .u8)⟩)], f13_bautaref31_Flat_F N⟩
/-! ### bauta/bautalaw31.lives -/
def f10_bautalaw31_lives_F (N : Nat) (x : Pat.teleL [] (MPat.tele [] Unit)) : Option (Pat.tele (.val .bool) (MPat.tele [] Unit)) := some (true, ())
def f10_bautalaw31_lives_E (N : Nat) : FE := ⟨10, [], [], .val .bool, [], f10_bautalaw31_lives_F N⟩
/-! ### bauta/bautalaw31.HexfileFlats -/
def f4_bautalaw31_HexfileFlats_j3_in : SPat := ⟨[(0, .val (.list (.prod (.int .u32) (.list (.int .u8))))), (0, .val (.int .u32)), (0, .val (.int .i64))], 55, [], 0⟩
def f4_bautalaw31_HexfileFlats_j3_out : Outs := (.one (.ret) ⟨[(6, .val .bool)], 51, [], 0⟩)
def f4_bautalaw31_HexfileFlats_l5_in : SPat := ⟨[(0, .val (.list (.prod (.int .u32) (.list (.int .u8))))), (0, .val (.int .u32)), (0, .val (.int .i64)), (4, .own 0 2), (0, .val (.int .i64))], 49, [(0, ⟨31, 2, .list (.prod (.int .u32) (.list (.int .u8)))⟩)], 1⟩
def f4_bautalaw31_HexfileFlats_l5_out : Outs := (.one (.exit 0) ⟨[(1, .val (.int .u32)), (0, .val (.int .i64)), (4, .own 0 2)], 50, [(0, ⟨31, 2, .list (.prod (.int .u32) (.list (.int .u8)))⟩)], 1⟩)
def f4_bautalaw31_HexfileFlats_j10_in : SPat := ⟨[(1, .val (.int .u32)), (0, .val (.int .i64)), (4, .own 0 2)], 50, [(0, ⟨31, 2, .list (.prod (.int .u32) (.list (.int .u8)))⟩)], 1⟩
def f4_bautalaw31_HexfileFlats_j10_out : Outs := (.one (.ret) ⟨[(6, .val .bool)], 51, [], 0⟩)
def f4_bautalaw31_HexfileFlats_l5_T (N : Nat) (p_l : (List (Int × (List Int)))) (p_base : Int) (p_n : Int) (p_i : Int) (p_r0 : (List (Int × (List Int)))) : Tree (f4_bautalaw31_HexfileFlats_l5_in.X ⊕ f4_bautalaw31_HexfileFlats_l5_out.Y) :=
  let v1 : Int := (p_l.length : Int)
  let v2 : Bool := (ltI p_i v1)
  .br v2 (
    .br (inRange p_i p_l.length) (
    let v3 : (Int × (List Int)) := (p_l.getD p_i.toNat (0, []))
    .br (inRange p_i p_l.length) (
    let v4 : (Int × (List Int)) := (p_l.getD p_i.toNat (0, []))
    .call (f11_bautalaw31_short_F N (v4.2, ())) fun y5 => (
    .br (ltI (((p_r0.length : Int) + 1) * 32) 140737488355328) (
    let v6 : (List (Int × (List Int))) := (p_r0 ++ [(v3.1, y5.1)])
    let v7 : Int := (IntKind.i64.wrap (p_i + 1))
    .ret (.inl (p_l, p_base, p_n, v7, v6, ()))) .fail)) .fail) .fail) (
    .ret (.inr (p_base, p_n, p_r0, ())))
def f4_bautalaw31_HexfileFlats_l5_S (N : Nat) (x : f4_bautalaw31_HexfileFlats_l5_in.X) : Tree (f4_bautalaw31_HexfileFlats_l5_in.X ⊕ f4_bautalaw31_HexfileFlats_l5_out.Y) := f4_bautalaw31_HexfileFlats_l5_T N x.1 x.2.1 x.2.2.1 x.2.2.2.1 x.2.2.2.2.1
def f4_bautalaw31_HexfileFlats_l5 (N : Nat) : f4_bautalaw31_HexfileFlats_l5_in.X → Option f4_bautalaw31_HexfileFlats_l5_out.Y := loopN (f4_bautalaw31_HexfileFlats_l5_S N) N
def f4_bautalaw31_HexfileFlats_j10_T (N : Nat) (p_base : Int) (p_n : Int) (p_r0 : (List (Int × (List Int)))) : Tree (f4_bautalaw31_HexfileFlats_j10_out.Y) :=
  .call (f12_hexfile_Flat_F N (p_r0, p_base, p_n, ())) fun y1 => (
  let v2 : ByteArray := (bytesS y1.1)
  .call (f13_bautaref31_Flat_F N (p_r0, p_base, p_n, ())) fun y3 => (
  let v4 : ByteArray := (bytesS y3.1)
  let v5 : Bool := (v2.toList == v4.toList)
  .br v5 (
    .call (f10_bautalaw31_lives_F N ()) fun y6 => (
    .ret (y6.1, ()))) (
    .ret (false, ()))))
def f4_bautalaw31_HexfileFlats_j10 (N : Nat) : f4_bautalaw31_HexfileFlats_j10_in.X → Option f4_bautalaw31_HexfileFlats_j10_out.Y := fun x => (f4_bautalaw31_HexfileFlats_j10_T N x.1 x.2.1 x.2.2.1).run some
def f4_bautalaw31_HexfileFlats_j3_T (N : Nat) (p_l : (List (Int × (List Int)))) (p_base : Int) (p_n : Int) : Tree (f4_bautalaw31_HexfileFlats_j3_out.Y) :=
  .call (f4_bautalaw31_HexfileFlats_l5 N (p_l, p_base, p_n, 0, [], ())) fun y1 => (
  let v2 : Bool := (ltI 3000 y1.2.1)
  .br v2 (
    let v3 : Bool := (leI y1.2.1 1048576)
    .br v3 (
      let v4 : Int := (y1.2.1.tmod 3000)
      .call (f4_bautalaw31_HexfileFlats_j10 N (y1.1, v4, y1.2.2.1, ())) fun y5 => (
      .ret (y5.1, ()))) (
      .call (f4_bautalaw31_HexfileFlats_j10 N (y1.1, y1.2.1, y1.2.2.1, ())) fun y6 => (
      .ret (y6.1, ())))) (
    .call (f4_bautalaw31_HexfileFlats_j10 N (y1.1, y1.2.1, y1.2.2.1, ())) fun y7 => (
    .ret (y7.1, ()))))
def f4_bautalaw31_HexfileFlats_j3 (N : Nat) : f4_bautalaw31_HexfileFlats_j3_in.X → Option f4_bautalaw31_HexfileFlats_j3_out.Y := fun x => (f4_bautalaw31_HexfileFlats_j3_T N x.1 x.2.1 x.2.2.1).run some
def f4_bautalaw31_HexfileFlats_T (N : Nat) (p_l : (List (Int × (List Int)))) (p_base : Int) (p_n : Int) : Tree (Pat.tele (.val .bool) (MPat.tele [] Unit)) :=
  let v1 : Int := (p_l.length : Int)
  let v2 : Bool := (ltI 30 v1)
  .br v2 (
    .br (leI 0 30 && leI 30 (p_l.length : Int)) (
    let v3 : (List (Int × (List Int))) := (p_l.take 30)
    .call (f4_bautalaw31_HexfileFlats_j3 N (v3, p_base, p_n, ())) fun y4 => (
    .ret (y4.1, ()))) .fail) (
    .call (f4_bautalaw31_HexfileFlats_j3 N (p_l, p_base, p_n, ())) fun y5 => (
    .ret (y5.1, ())))
def f4_bautalaw31_HexfileFlats_F (N : Nat) (x : Pat.teleL [.val (.list (.prod (.int .u32) (.list (.int .u8)))), .val (.int .u32), .val (.int .i64)] (MPat.tele [] Unit)) : Option (Pat.tele (.val .bool) (MPat.tele [] Unit)) := (f4_bautalaw31_HexfileFlats_T N x.1 x.2.1 x.2.2.1).run some
def f4_bautalaw31_HexfileFlats_E (N : Nat) : FE := ⟨4, [.val (.list (.prod (.int .u32) (.list (.int .u8)))), .val (.int .u32), .val (.int .i64)], [], .val .bool, [], f4_bautalaw31_HexfileFlats_F N⟩
end Go.Proofs.YtoahoagfkpfhnaaV
