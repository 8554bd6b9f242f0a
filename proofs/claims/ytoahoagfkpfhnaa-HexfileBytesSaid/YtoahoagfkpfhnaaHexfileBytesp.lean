/- HexfileBytes: that they come to it (printed by wip/ext.py). -/
import Derived.Test.YtoahoagfkpfhnaaHexfileBytesd
import Derived.Test.YtoahoagfkpfhnaaChecked
namespace Go.Proofs.YtoahoagfkpfhnaaV
open Go.RowKit
set_option linter.unusedVariables false
set_option maxRecDepth 100000
def md : FuncId → List Bool
  | 31 => [true, false, false, false]
  | 32 => [true, false, false, false, false]
  | 33 => [true, false, false]
  | 37 => [true, false]
  | 39 => [true]
  | 41 => [true, false]
  | 42 => [true, false, false]
  | 43 => [true, false, false]
  | 44 => [true, false, false, false]
  | 49 => [true]
  | 50 => [true, false]
  | 53 => [true, false, false]
  | 54 => [true, false, false]
  | _ => []
theorem mixed : Try.prog.follows .mixedOrders = true := by kernel_rfl
def f9_hexfile_Bytes_xk : Nat → Exit → List Nat
  | 6, .exit 0 => [3]
  | 6, .normal => [3, 6, 7, 8]
  | _, _ => []
def f9_hexfile_Bytes_l3_e (N : Nat) : TE := ⟨6, f9_hexfile_Bytes_l3_in, f9_hexfile_Bytes_l3_out, f9_hexfile_Bytes_l3 N⟩
noncomputable def f9_hexfile_Bytes_A (N : Nat) : Ann := ⟨⟨Try.prog, dOf [], md⟩, 0, 0, [(6, [3, 6, 7, 8])], f9_hexfile_Bytes_xk, LOf [f9_hexfile_Bytes_l3_e N]⟩
theorem f9_hexfile_Bytes_l3_ok (N : Nat) : EOK (f9_hexfile_Bytes_A N) (f9_hexfile_Bytes_l3_e N) ((findCut 6 (Try.f9.body.getD .skip)).getD .skip) :=
  loop_ok (pin := f9_hexfile_Bytes_l3_in) (outs := f9_hexfile_Bytes_l3_out) (s := f9_hexfile_Bytes_l3_S N) N rfl rfl (fun x R k => by kernel_rfl)
theorem f9_hexfile_Bytes_ok (N : Nat) : FEok Try.prog (f9_hexfile_Bytes_E N) :=
  fn_ok (A := f9_hexfile_Bytes_A N) (pin := [.val (.list (.int .u16))]) (rin := []) (pout := .own 0 1) (rout := [(0, ⟨5, 1, .list (.int .u8)⟩)]) (t := fun x => f9_hexfile_Bytes_T N x.1) (dok_of trivial) mixed Try.func9 (by kernel_rfl) (tok_fn (tok_of rfl (by kernel_rfl) ⟨f9_hexfile_Bytes_l3_ok N, trivial⟩)) rfl false (fun x => by kernel_rfl)
noncomputable def f10_bautalaw31_lives_A (N : Nat) : Ann := ⟨⟨Try.prog, lvl Try.prog md (fun _ => false) 40 12, md⟩, 0, 0, [], fun _ _ => [], fun _ _ => none⟩
theorem f10_bautalaw31_lives_ok (N : Nat) : FEok Try.prog (f10_bautalaw31_lives_E N) :=
  fn_ok (A := f10_bautalaw31_lives_A N) (pin := []) (rin := []) (pout := .val .bool) (rout := []) (t := fun _ => .ret (true, ())) (lvl_ok mixed _ _ _ _) mixed Try.func10 (by kernel_rfl) (tok_fn (TOK.nil rfl _)) rfl false (fun x => by kernel_rfl)
def f3_bautalaw31_HexfileBytes_xk : Nat → Exit → List Nat
  | 7, .ret => [2]
  | 14, .ret => [2]
  | 14, .exit 0 => []
  | 14, .normal => [0, 3, 4]
  | _, _ => []
def f3_bautalaw31_HexfileBytes_j3_e (N : Nat) : TE := ⟨7, f3_bautalaw31_HexfileBytes_j3_in, f3_bautalaw31_HexfileBytes_j3_out, f3_bautalaw31_HexfileBytes_j3 N⟩
def f3_bautalaw31_HexfileBytes_l7_e (N : Nat) : TE := ⟨14, f3_bautalaw31_HexfileBytes_l7_in, f3_bautalaw31_HexfileBytes_l7_out, f3_bautalaw31_HexfileBytes_l7 N⟩
noncomputable def f3_bautalaw31_HexfileBytes_A (N : Nat) : Ann := ⟨⟨Try.prog, dOf [f9_hexfile_Bytes_E N, f10_bautalaw31_lives_E N], md⟩, 0, 0, [(7, [0]), (14, [0, 3, 4])], f3_bautalaw31_HexfileBytes_xk, LOf [f3_bautalaw31_HexfileBytes_j3_e N, f3_bautalaw31_HexfileBytes_l7_e N]⟩
theorem f3_bautalaw31_HexfileBytes_j3_ok (N : Nat) : EOK (f3_bautalaw31_HexfileBytes_A N) (f3_bautalaw31_HexfileBytes_j3_e N) ((findCut 7 (Try.f3.body.getD .skip)).getD .skip) :=
  join_ok (pin := f3_bautalaw31_HexfileBytes_j3_in) (outs := f3_bautalaw31_HexfileBytes_j3_out) (t := fun x => f3_bautalaw31_HexfileBytes_j3_T N x.1) rfl (fun x R k => by kernel_rfl)
theorem f3_bautalaw31_HexfileBytes_l7_ok (N : Nat) : EOK (f3_bautalaw31_HexfileBytes_A N) (f3_bautalaw31_HexfileBytes_l7_e N) ((findCut 14 (Try.f3.body.getD .skip)).getD .skip) :=
  loop_ok (pin := f3_bautalaw31_HexfileBytes_l7_in) (outs := f3_bautalaw31_HexfileBytes_l7_out) (s := f3_bautalaw31_HexfileBytes_l7_S N) N rfl rfl (fun x R k => by kernel_rfl)
theorem f3_bautalaw31_HexfileBytes_ok (N : Nat) : FEok Try.prog (f3_bautalaw31_HexfileBytes_E N) :=
  fn_ok (A := f3_bautalaw31_HexfileBytes_A N) (pin := [.val (.list (.int .u16))]) (rin := []) (pout := .val .bool) (rout := []) (t := fun x => f3_bautalaw31_HexfileBytes_T N x.1) (dok_of ⟨f9_hexfile_Bytes_ok N, ⟨f10_bautalaw31_lives_ok N, trivial⟩⟩) mixed Try.func3 (by kernel_rfl) (tok_fn (tok_of rfl (by kernel_rfl) ⟨f3_bautalaw31_HexfileBytes_j3_ok N, ⟨f3_bautalaw31_HexfileBytes_l7_ok N, trivial⟩⟩)) rfl false (fun x => by kernel_rfl)
end Go.Proofs.YtoahoagfkpfhnaaV
