/- HexfileFlats: that they come to it (printed by wip/ext.py). -/
import Derived.Test.YtoahoagfkpfhnaaHexfileFlatsd
import Derived.Test.YtoahoagfkpfhnaaChecked
namespace Go.Proofs.YtoahoagfkpfhnaaV
open Go.RowKit
set_option linter.unusedVariables false
set_option maxRecDepth 100000
def md : FuncId → List Bool
  | 31 => [true, false, false, false]
  | 32 => [true, false, false, false, false]
  | 33 => [true, false, false]
  | 37 => [true, false]
  | 39 => [true]
  | 41 => [true, false]
  | 42 => [true, false, false]
  | 43 => [true, false, false]
  | 44 => [true, false, false, false]
  | 49 => [true]
  | 50 => [true, false]
  | 53 => [true, false, false]
  | 54 => [true, false, false]
  | _ => []
theorem mixed : Try.prog.follows .mixedOrders = true := by kernel_rfl
noncomputable def f11_bautalaw31_short_A (N : Nat) : Ann := ⟨⟨Try.prog, dOf [], md⟩, 0, 0, [], fun _ _ => [], LOf []⟩
theorem f11_bautalaw31_short_ok (N : Nat) : FEok Try.prog (f11_bautalaw31_short_E N) :=
  fn_ok (A := f11_bautalaw31_short_A N) (pin := [.val (.list (.int .u8))]) (rin := []) (pout := .val (.list (.int .u8))) (rout := []) (t := fun x => f11_bautalaw31_short_T N x.1) (dok_of trivial) mixed Try.func11 (by kernel_rfl) (tok_fn (tok_of rfl (by kernel_rfl) trivial)) rfl true (fun x => by kernel_rfl)
def f12_hexfile_Flat_xk : Nat → Exit → List Nat
  | 7, .ret => [6]
  | 10, .exit 0 => [7]
  | 10, .normal => [1, 2, 7, 21, 22, 23]
  | 16, .exit 2 => [1, 2, 7, 21, 22, 23]
  | 16, .normal => [1, 2, 7, 9, 21, 22, 23, 28, 29, 30]
  | 25, .normal => [1, 2, 7, 9, 21, 22, 23, 28, 29, 30]
  | _, _ => []
def f12_hexfile_Flat_j3_e (N : Nat) : TE := ⟨7, f12_hexfile_Flat_j3_in, f12_hexfile_Flat_j3_out, f12_hexfile_Flat_j3 N⟩
def f12_hexfile_Flat_l5_e (N : Nat) : TE := ⟨10, f12_hexfile_Flat_l5_in, f12_hexfile_Flat_l5_out, f12_hexfile_Flat_l5 N⟩
def f12_hexfile_Flat_l8_e (N : Nat) : TE := ⟨16, f12_hexfile_Flat_l8_in, f12_hexfile_Flat_l8_out, f12_hexfile_Flat_l8 N⟩
def f12_hexfile_Flat_j12_e (N : Nat) : TE := ⟨25, f12_hexfile_Flat_j12_in, f12_hexfile_Flat_j12_out, f12_hexfile_Flat_j12 N⟩
noncomputable def f12_hexfile_Flat_A (N : Nat) : Ann := ⟨⟨Try.prog, dOf [], md⟩, 0, 0, [(7, [0, 1, 2]), (10, [1, 2, 7, 21, 22, 23]), (16, [1, 2, 7, 9, 21, 22, 23, 28, 29, 30]), (25, [1, 2, 7, 9, 11, 12, 21, 22, 23, 28, 29, 30, 57])], f12_hexfile_Flat_xk, LOf [f12_hexfile_Flat_j3_e N, f12_hexfile_Flat_l5_e N, f12_hexfile_Flat_l8_e N, f12_hexfile_Flat_j12_e N]⟩
theorem f12_hexfile_Flat_j3_ok (N : Nat) : EOK (f12_hexfile_Flat_A N) (f12_hexfile_Flat_j3_e N) ((findCut 7 (Try.f12.body.getD .skip)).getD .skip) :=
  join_ok (pin := f12_hexfile_Flat_j3_in) (outs := f12_hexfile_Flat_j3_out) (t := fun x => f12_hexfile_Flat_j3_T N x.1 x.2.1 x.2.2.1) rfl (fun x R k => by kernel_rfl)
theorem f12_hexfile_Flat_l5_ok (N : Nat) : EOK (f12_hexfile_Flat_A N) (f12_hexfile_Flat_l5_e N) ((findCut 10 (Try.f12.body.getD .skip)).getD .skip) :=
  loop_ok (pin := f12_hexfile_Flat_l5_in) (outs := f12_hexfile_Flat_l5_out) (s := f12_hexfile_Flat_l5_S N) N rfl rfl (fun x R k => by kernel_rfl)
theorem f12_hexfile_Flat_l8_ok (N : Nat) : EOK (f12_hexfile_Flat_A N) (f12_hexfile_Flat_l8_e N) ((findCut 16 (Try.f12.body.getD .skip)).getD .skip) :=
  loop_ok (pin := f12_hexfile_Flat_l8_in) (outs := f12_hexfile_Flat_l8_out) (s := f12_hexfile_Flat_l8_S N) N rfl rfl (fun x R k => by kernel_rfl)
theorem f12_hexfile_Flat_j12_ok (N : Nat) : EOK (f12_hexfile_Flat_A N) (f12_hexfile_Flat_j12_e N) ((findCut 25 (Try.f12.body.getD .skip)).getD .skip) :=
  join_ok (pin := f12_hexfile_Flat_j12_in) (outs := f12_hexfile_Flat_j12_out) (t := fun x => f12_hexfile_Flat_j12_T N x.1 x.2.1 x.2.2.1 x.2.2.2.1 x.2.2.2.2.1 x.2.2.2.2.2.1 x.2.2.2.2.2.2.1 x.2.2.2.2.2.2.2.1 x.2.2.2.2.2.2.2.2.1 x.2.2.2.2.2.2.2.2.2.1 x.2.2.2.2.2.2.2.2.2.2.1 x.2.2.2.2.2.2.2.2.2.2.2.1 x.2.2.2.2.2.2.2.2.2.2.2.2.1 x.2.2.2.2.2.2.2.2.2.2.2.2.2.1) rfl (fun x R k => by kernel_rfl)
theorem f12_hexfile_Flat_ok (N : Nat) : FEok Try.prog (f12_hexfile_Flat_E N) :=
  fn_ok (A := f12_hexfile_Flat_A N) (pin := [.val (.list (.prod (.int .u32) (.list (.int .u8)))), .val (.int .u32), .val (.int .i64)]) (rin := []) (pout := .own 0 1) (rout := [(0, ⟨5, 1, .list (.int .u8)⟩)]) (t := fun x => f12_hexfile_Flat_T N x.1 x.2.1 x.2.2.1) (dok_of trivial) mixed Try.func12 (by kernel_rfl) (tok_fn (tok_of rfl (by kernel_rfl) ⟨f12_hexfile_Flat_j3_ok N, ⟨f12_hexfile_Flat_l5_ok N, ⟨f12_hexfile_Flat_l8_ok N, ⟨f12_hexfile_Flat_j12_ok N, trivial⟩⟩⟩⟩)) rfl false (fun x => by kernel_rfl)
def f13_bautaref31_Flat_xk : Nat → Exit → List Nat
  | 9, .ret => [6]
  | 12, .exit 0 => [7]
  | 12, .normal => [0, 1, 2, 7, 8]
  | 18, .exit 2 => [0, 1, 2, 7, 8]
  | 18, .normal => [0, 1, 2, 7, 8, 9]
  | 27, .normal => [0, 1, 2, 7, 8, 9]
  | _, _ => []
def f13_bautaref31_Flat_j4_e (N : Nat) : TE := ⟨9, f13_bautaref31_Flat_j4_in, f13_bautaref31_Flat_j4_out, f13_bautaref31_Flat_j4 N⟩
def f13_bautaref31_Flat_l6_e (N : Nat) : TE := ⟨12, f13_bautaref31_Flat_l6_in, f13_bautaref31_Flat_l6_out, f13_bautaref31_Flat_l6 N⟩
def f13_bautaref31_Flat_l9_e (N : Nat) : TE := ⟨18, f13_bautaref31_Flat_l9_in, f13_bautaref31_Flat_l9_out, f13_bautaref31_Flat_l9 N⟩
def f13_bautaref31_Flat_j13_e (N : Nat) : TE := ⟨27, f13_bautaref31_Flat_j13_in, f13_bautaref31_Flat_j13_out, f13_bautaref31_Flat_j13 N⟩
noncomputable def f13_bautaref31_Flat_A (N : Nat) : Ann := ⟨⟨Try.prog, dOf [], md⟩, 0, 0, [(9, [0, 1, 2]), (12, [0, 1, 2, 7, 8]), (18, [0, 1, 2, 7, 8, 9]), (27, [0, 1, 2, 7, 8, 9, 10, 60])], f13_bautaref31_Flat_xk, LOf [f13_bautaref31_Flat_j4_e N, f13_bautaref31_Flat_l6_e N, f13_bautaref31_Flat_l9_e N, f13_bautaref31_Flat_j13_e N]⟩
theorem f13_bautaref31_Flat_j4_ok (N : Nat) : EOK (f13_bautaref31_Flat_A N) (f13_bautaref31_Flat_j4_e N) ((findCut 9 (Try.f13.body.getD .skip)).getD .skip) :=
  join_ok (pin := f13_bautaref31_Flat_j4_in) (outs := f13_bautaref31_Flat_j4_out) (t := fun x => f13_bautaref31_Flat_j4_T N x.1 x.2.1 x.2.2.1) rfl (fun x R k => by kernel_rfl)
theorem f13_bautaref31_Flat_l6_ok (N : Nat) : EOK (f13_bautaref31_Flat_A N) (f13_bautaref31_Flat_l6_e N) ((findCut 12 (Try.f13.body.getD .skip)).getD .skip) :=
  loop_ok (pin := f13_bautaref31_Flat_l6_in) (outs := f13_bautaref31_Flat_l6_out) (s := f13_bautaref31_Flat_l6_S N) N rfl rfl (fun x R k => by kernel_rfl)
theorem f13_bautaref31_Flat_l9_ok (N : Nat) : EOK (f13_bautaref31_Flat_A N) (f13_bautaref31_Flat_l9_e N) ((findCut 18 (Try.f13.body.getD .skip)).getD .skip) :=
  loop_ok (pin := f13_bautaref31_Flat_l9_in) (outs := f13_bautaref31_Flat_l9_out) (s := f13_bautaref31_Flat_l9_S N) N rfl rfl (fun x R k => by kernel_rfl)
theorem f13_bautaref31_Flat_j13_ok (N : Nat) : EOK (f13_bautaref31_Flat_A N) (f13_bautaref31_Flat_j13_e N) ((findCut 27 (Try.f13.body.getD .skip)).getD .skip) :=
  join_ok (pin := f13_bautaref31_Flat_j13_in) (outs := f13_bautaref31_Flat_j13_out) (t := fun x => f13_bautaref31_Flat_j13_T N x.1 x.2.1 x.2.2.1 x.2.2.2.1 x.2.2.2.2.1 x.2.2.2.2.2.1 x.2.2.2.2.2.2.1 x.2.2.2.2.2.2.2.1) rfl (fun x R k => by kernel_rfl)
theorem f13_bautaref31_Flat_ok (N : Nat) : FEok Try.prog (f13_bautaref31_Flat_E N) :=
  fn_ok (A := f13_bautaref31_Flat_A N) (pin := [.val (.list (.prod (.int .u32) (.list (.int .u8)))), .val (.int .u32), .val (.int .i64)]) (rin := []) (pout := .own 0 1) (rout := [(0, ⟨5, 1, .list (.int .u8)⟩)]) (t := fun x => f13_bautaref31_Flat_T N x.1 x.2.1 x.2.2.1) (dok_of trivial) mixed Try.func13 (by kernel_rfl) (tok_fn (tok_of rfl (by kernel_rfl) ⟨f13_bautaref31_Flat_j4_ok N, ⟨f13_bautaref31_Flat_l6_ok N, ⟨f13_bautaref31_Flat_l9_ok N, ⟨f13_bautaref31_Flat_j13_ok N, trivial⟩⟩⟩⟩)) rfl false (fun x => by kernel_rfl)
noncomputable def f10_bautalaw31_lives_A (N : Nat) : Ann := ⟨⟨Try.prog, lvl Try.prog md (fun _ => false) 40 12, md⟩, 0, 0, [], fun _ _ => [], fun _ _ => none⟩
theorem f10_bautalaw31_lives_ok (N : Nat) : FEok Try.prog (f10_bautalaw31_lives_E N) :=
  fn_ok (A := f10_bautalaw31_lives_A N) (pin := []) (rin := []) (pout := .val .bool) (rout := []) (t := fun _ => .ret (true, ())) (lvl_ok mixed _ _ _ _) mixed Try.func10 (by kernel_rfl) (tok_fn (TOK.nil rfl _)) rfl false (fun x => by kernel_rfl)
def f4_bautalaw31_HexfileFlats_xk : Nat → Exit → List Nat
  | 7, .ret => [6]
  | 10, .exit 0 => [1, 2, 7]
  | 10, .normal => [0, 1, 2, 7, 8]
  | 21, .ret => [6]
  | _, _ => []
def f4_bautalaw31_HexfileFlats_j3_e (N : Nat) : TE := ⟨7, f4_bautalaw31_HexfileFlats_j3_in, f4_bautalaw31_HexfileFlats_j3_out, f4_bautalaw31_HexfileFlats_j3 N⟩
def f4_bautalaw31_HexfileFlats_l5_e (N : Nat) : TE := ⟨10, f4_bautalaw31_HexfileFlats_l5_in, f4_bautalaw31_HexfileFlats_l5_out, f4_bautalaw31_HexfileFlats_l5 N⟩
def f4_bautalaw31_HexfileFlats_j10_e (N : Nat) : TE := ⟨21, f4_bautalaw31_HexfileFlats_j10_in, f4_bautalaw31_HexfileFlats_j10_out, f4_bautalaw31_HexfileFlats_j10 N⟩
noncomputable def f4_bautalaw31_HexfileFlats_A (N : Nat) : Ann := ⟨⟨Try.prog, dOf [f11_bautalaw31_short_E N, f12_hexfile_Flat_E N, f13_bautaref31_Flat_E N, f10_bautalaw31_lives_E N], md⟩, 0, 0, [(7, [0, 1, 2]), (10, [0, 1, 2, 7, 8]), (21, [1, 2, 7])], f4_bautalaw31_HexfileFlats_xk, LOf [f4_bautalaw31_HexfileFlats_j3_e N, f4_bautalaw31_HexfileFlats_l5_e N, f4_bautalaw31_HexfileFlats_j10_e N]⟩
theorem f4_bautalaw31_HexfileFlats_j3_ok (N : Nat) : EOK (f4_bautalaw31_HexfileFlats_A N) (f4_bautalaw31_HexfileFlats_j3_e N) ((findCut 7 (Try.f4.body.getD .skip)).getD .skip) :=
  join_ok (pin := f4_bautalaw31_HexfileFlats_j3_in) (outs := f4_bautalaw31_HexfileFlats_j3_out) (t := fun x => f4_bautalaw31_HexfileFlats_j3_T N x.1 x.2.1 x.2.2.1) rfl (fun x R k => by kernel_rfl)
theorem f4_bautalaw31_HexfileFlats_l5_ok (N : Nat) : EOK (f4_bautalaw31_HexfileFlats_A N) (f4_bautalaw31_HexfileFlats_l5_e N) ((findCut 10 (Try.f4.body.getD .skip)).getD .skip) :=
  loop_ok (pin := f4_bautalaw31_HexfileFlats_l5_in) (outs := f4_bautalaw31_HexfileFlats_l5_out) (s := f4_bautalaw31_HexfileFlats_l5_S N) N rfl rfl (fun x R k => by kernel_rfl)
theorem f4_bautalaw31_HexfileFlats_j10_ok (N : Nat) : EOK (f4_bautalaw31_HexfileFlats_A N) (f4_bautalaw31_HexfileFlats_j10_e N) ((findCut 21 (Try.f4.body.getD .skip)).getD .skip) :=
  join_ok (pin := f4_bautalaw31_HexfileFlats_j10_in) (outs := f4_bautalaw31_HexfileFlats_j10_out) (t := fun x => f4_bautalaw31_HexfileFlats_j10_T N x.1 x.2.1 x.2.2.1) rfl (fun x R k => by kernel_rfl)
theorem f4_bautalaw31_HexfileFlats_ok (N : Nat) : FEok Try.prog (f4_bautalaw31_HexfileFlats_E N) :=
  fn_ok (A := f4_bautalaw31_HexfileFlats_A N) (pin := [.val (.list (.prod (.int .u32) (.list (.int .u8)))), .val (.int .u32), .val (.int .i64)]) (rin := []) (pout := .val .bool) (rout := []) (t := fun x => f4_bautalaw31_HexfileFlats_T N x.1 x.2.1 x.2.2.1) (dok_of ⟨f11_bautalaw31_short_ok N, ⟨f12_hexfile_Flat_ok N, ⟨f13_bautaref31_Flat_ok N, ⟨f10_bautalaw31_lives_ok N, trivial⟩⟩⟩⟩) mixed Try.func4 (by kernel_rfl) (tok_fn (tok_of rfl (by kernel_rfl) ⟨f4_bautalaw31_HexfileFlats_j3_ok N, ⟨f4_bautalaw31_HexfileFlats_l5_ok N, ⟨f4_bautalaw31_HexfileFlats_j10_ok N, trivial⟩⟩⟩)) rfl false (fun x => by kernel_rfl)
end Go.Proofs.YtoahoagfkpfhnaaV
