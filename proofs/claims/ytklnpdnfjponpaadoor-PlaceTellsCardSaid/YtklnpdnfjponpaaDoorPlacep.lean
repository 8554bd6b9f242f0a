/- Place: that they come to it (printed by wip/ext.py). -/
import Derived.Test.YtklnpdnfjponpaaDoorPlaced
import Derived.Test.YtklnpdnfjponpaaDoorVLp
namespace Go.Proofs.YtklnpdnfjponpaaDoorV
open Go.RowKit
set_option linter.unusedVariables false
set_option maxRecDepth 100000
noncomputable def md : FuncId → List Bool
  | 39 => [true, false]
  | 40 => [true, false]
  | 41 => [true]
  | 42 => [true]
  | 52 => [true]
  | 53 => [true, false]
  | 81 => [true]
  | 82 => [true]
  | 83 => [true]
  | 84 => [true]
  | 85 => [true]
  | 89 => [true]
  | _ => []
theorem mixed : Tryd.prog.follows .mixedOrders = true := by kernel_rfl
noncomputable def bautaref04_Num_o (x : Pat.teleL [.val (.int .i64)] (MPat.tele [] Unit)) (y : ByteArray) : Pat.tele (.val .str) (MPat.tele [] Unit) := (y, ())
noncomputable def bautaref04_Num_Er (r : Int → Option ByteArray) : FE := ⟨24, [.val (.int .i64)], [], .val .str, [], ByteArray, fun x => r x.1, bautaref04_Num_o⟩
noncomputable def bautaref04_Num_E (N : Nat) : FE := bautaref04_Num_Er (bautaref04_Num N)
noncomputable def bautalaw29_short_o (x : Pat.teleL [.val .str] (MPat.tele [] Unit)) (y : ByteArray) : Pat.tele (.val .str) (MPat.tele [] Unit) := (y, ())
noncomputable def bautalaw29_short_E (N : Nat) : FE := ⟨8, [.val .str], [], .val .str, [], ByteArray, fun x => bautalaw29_short N x.1, bautalaw29_short_o⟩
noncomputable def bautalaw29_short_A (N : Nat) : Ann := ⟨⟨Tryd.prog, dOf [], md⟩, 0, 0, [], fun _ _ => [], LOf []⟩
theorem bautalaw29_short_ok (N : Nat) : FEok Tryd.prog (bautalaw29_short_E N) :=
  fn_ok (A := bautalaw29_short_A N) (pin := [.val .str]) (rin := []) (pout := .val .str) (rout := []) (Y := ByteArray) (out := bautalaw29_short_o) (t := fun x => bautalaw29_short_T N x.1) (dok_of trivial) mixed Tryd.func8 (by kernel_rfl) (tok_fn (tok_of rfl (by kernel_rfl) trivial)) rfl false (fun x => by kernel_rfl)
noncomputable def place_inside_o (x : Pat.teleL [.val .str, .val (.int .i64)] (MPat.tele [] Unit)) (y : Int) : Pat.tele (.val (.int .i64)) (MPat.tele [] Unit) := (y, ())
noncomputable def place_inside_E (N : Nat) : FE := ⟨29, [.val .str, .val (.int .i64)], [], .val (.int .i64), [], Int, fun x => place_inside N x.1 x.2.1, place_inside_o⟩
noncomputable def place_inside_A (N : Nat) : Ann := ⟨⟨Tryd.prog, dOf [], md⟩, 0, 0, [], fun _ _ => [], LOf []⟩
theorem place_inside_ok (N : Nat) : FEok Tryd.prog (place_inside_E N) :=
  fn_ok (A := place_inside_A N) (pin := [.val .str, .val (.int .i64)]) (rin := []) (pout := .val (.int .i64)) (rout := []) (Y := Int) (out := place_inside_o) (t := fun x => place_inside_T N x.1 x.2.1) (dok_of trivial) mixed Tryd.func29 (by kernel_rfl) (tok_fn (tok_of rfl (by kernel_rfl) trivial)) rfl false (fun x => by kernel_rfl)
noncomputable def strings_Count_o (x : Pat.teleL [.val .str, .val .str] (MPat.tele [] Unit)) (y : Int) : Pat.tele (.val (.int .i64)) (MPat.tele [] Unit) := (y, ())
noncomputable def strings_Count_E (N : Nat) : FE := ⟨33, [.val .str, .val .str], [], .val (.int .i64), [], Int, fun x => strings_Count N x.1 x.2.1, strings_Count_o⟩
theorem strings_Count_ok (N : Nat) : FEok Tryd.prog (strings_Count_E N) := ⟨enters_run Tryd.func33 (by kernel_rfl), fun x y h => lib_ok rfl rfl fun W gw => strings_Count_c (N := N) gw h⟩
noncomputable def strings_LastIndexByte_o (x : Pat.teleL [.val .str, .val (.int .u8)] (MPat.tele [] Unit)) (y : Int) : Pat.tele (.val (.int .i64)) (MPat.tele [] Unit) := (y, ())
noncomputable def strings_LastIndexByte_E (N : Nat) : FE := ⟨36, [.val .str, .val (.int .u8)], [], .val (.int .i64), [], Int, fun x => strings_LastIndexByte N x.1 x.2.1, strings_LastIndexByte_o⟩
theorem strings_LastIndexByte_ok (N : Nat) : FEok Tryd.prog (strings_LastIndexByte_E N) := ⟨enters_run Tryd.func36 (by kernel_rfl), fun x y h => lib_ok rfl rfl fun W gw => strings_LastIndexByte_c (N := N) gw h⟩
noncomputable def place_start_o (x : Pat.teleL [.val .str, .val (.int .i64)] (MPat.tele [] Unit)) (y : Int) : Pat.tele (.val (.int .i64)) (MPat.tele [] Unit) := (y, ())
noncomputable def place_start_E (N : Nat) : FE := ⟨30, [.val .str, .val (.int .i64)], [], .val (.int .i64), [], Int, fun x => place_start N x.1 x.2.1, place_start_o⟩
noncomputable def place_start_A (N : Nat) : Ann := ⟨⟨Tryd.prog, dOf [strings_LastIndexByte_E N], md⟩, 0, 0, [], fun _ _ => [], LOf []⟩
theorem place_start_ok (N : Nat) : FEok Tryd.prog (place_start_E N) :=
  fn_ok (A := place_start_A N) (pin := [.val .str, .val (.int .i64)]) (rin := []) (pout := .val (.int .i64)) (rout := []) (Y := Int) (out := place_start_o) (t := fun x => place_start_T N x.1 x.2.1) (dok_of ⟨strings_LastIndexByte_ok N, trivial⟩) mixed Tryd.func30 (by kernel_rfl) (tok_fn (tok_of rfl (by kernel_rfl) trivial)) rfl false (fun x => by kernel_rfl)
noncomputable def place_of_o (x : Pat.teleL [.val .str, .val (.int .i64)] (MPat.tele [] Unit)) (y : (Int × Int)) : Pat.tele (.tup [.val (.int .i64), .val (.int .i64)]) (MPat.tele [] Unit) := (y.1, y.2, ())
noncomputable def place_of_E (N : Nat) : FE := ⟨25, [.val .str, .val (.int .i64)], [], .tup [.val (.int .i64), .val (.int .i64)], [], (Int × Int), fun x => place_of N x.1 x.2.1, place_of_o⟩
noncomputable def place_of_A (N : Nat) : Ann := ⟨⟨Tryd.prog, dOf [place_inside_E N, strings_Count_E N, place_start_E N], md⟩, 0, 0, [], fun _ _ => [], LOf []⟩
theorem place_of_ok (N : Nat) : FEok Tryd.prog (place_of_E N) :=
  fn_ok (A := place_of_A N) (pin := [.val .str, .val (.int .i64)]) (rin := []) (pout := .tup [.val (.int .i64), .val (.int .i64)]) (rout := []) (Y := (Int × Int)) (out := place_of_o) (t := fun x => place_of_T N x.1 x.2.1) (dok_of ⟨place_inside_ok N, ⟨strings_Count_ok N, ⟨place_start_ok N, trivial⟩⟩⟩) mixed Tryd.func25 (by kernel_rfl) (tok_fn (tok_of rfl (by kernel_rfl) trivial)) rfl false (fun x => by kernel_rfl)
noncomputable def place_Of_o (x : Pat.teleL [.val .str, .val (.int .i64)] (MPat.tele [] Unit)) (y : (Int × Int)) : Pat.tele (.tup [.val (.int .i64), .val (.int .i64)]) (MPat.tele [] Unit) := (y.1, y.2, ())
noncomputable def place_Of_E (N : Nat) : FE := ⟨17, [.val .str, .val (.int .i64)], [], .tup [.val (.int .i64), .val (.int .i64)], [], (Int × Int), fun x => place_Of N x.1 x.2.1, place_Of_o⟩
noncomputable def place_Of_A (N : Nat) : Ann := ⟨⟨Tryd.prog, dOf [place_of_E N], md⟩, 0, 0, [], fun _ _ => [], LOf []⟩
theorem place_Of_ok (N : Nat) : FEok Tryd.prog (place_Of_E N) :=
  fn_ok (A := place_Of_A N) (pin := [.val .str, .val (.int .i64)]) (rin := []) (pout := .tup [.val (.int .i64), .val (.int .i64)]) (rout := []) (Y := (Int × Int)) (out := place_Of_o) (t := fun x => place_Of_T N x.1 x.2.1) (dok_of ⟨place_of_ok N, trivial⟩) mixed Tryd.func17 (by kernel_rfl) (tok_fn (tok_of rfl (by kernel_rfl) trivial)) rfl false (fun x => by kernel_rfl)
noncomputable def bautaref29_Of_o (x : Pat.teleL [.val .str, .val (.int .i64)] (MPat.tele [] Unit)) (y : (Int × Int)) : Pat.tele (.tup [.val (.int .i64), .val (.int .i64)]) (MPat.tele [] Unit) := (y.1, y.2, ())
noncomputable def bautaref29_Of_E (N : Nat) : FE := ⟨18, [.val .str, .val (.int .i64)], [], .tup [.val (.int .i64), .val (.int .i64)], [], (Int × Int), fun x => bautaref29_Of N x.1 x.2.1, bautaref29_Of_o⟩
noncomputable def bautaref29_Of_xk : Nat → Exit → List Nat
  | 11, .normal => [0, 1, 6, 7, 8]
  | 6, .exit 0 => [6, 7]
  | 6, .normal => [0, 1, 6, 7, 8]
  | _, _ => []
noncomputable def bautaref29_Of_j5_in : SPat := ⟨[(0, .val .str), (0, .val (.int .i64)), (4, .val (.int .i64)), (0, .val (.int .i64)), (0, .val (.int .i64))], 21, [], 0⟩
noncomputable def bautaref29_Of_j5_out : Outs bautaref29_Of_j5_in.X := (.one (.normal) ⟨[(0, .val .str), (0, .val (.int .i64)), (4, .val (.int .i64)), (0, .val (.int .i64)), (0, .val (.int .i64))], 21, [], 0⟩ (Int × Int × Int) (fun x y => (x.1, x.2.1, y.1, y.2.1, y.2.2, ())))
noncomputable def bautaref29_Of_j5_e (N : Nat) : TE := ⟨11, bautaref29_Of_j5_in, bautaref29_Of_j5_out, fun x => bautaref29_Of_j5 N x.1 x.2.2.1 x.2.2.2.1 x.2.2.2.2.1⟩
noncomputable def bautaref29_Of_l3_in : SPat := ⟨[(0, .val .str), (0, .val (.int .i64)), (4, .val (.int .i64)), (0, .val (.int .i64)), (0, .val (.int .i64))], 21, [], 0⟩
noncomputable def bautaref29_Of_l3_out : Outs bautaref29_Of_l3_in.X := (.one (.exit 0) ⟨[(6, .val (.int .i64)), (0, .val (.int .i64))], 22, [], 0⟩ (Int × Int) (fun x y => (y.1, y.2, ())))
noncomputable def bautaref29_Of_l3_e (N : Nat) : TE := ⟨6, bautaref29_Of_l3_in, bautaref29_Of_l3_out, fun x => bautaref29_Of_l3 N x.1 x.2.1 (x.2.2.1, x.2.2.2.1, x.2.2.2.2.1)⟩
noncomputable def bautaref29_Of_A (N : Nat) : Ann := ⟨⟨Tryd.prog, dOf [], md⟩, 0, 0, [(11, [0, 1, 6, 7, 8]), (6, [0, 1, 6, 7, 8])], bautaref29_Of_xk, LOf [bautaref29_Of_j5_e N, bautaref29_Of_l3_e N]⟩
theorem bautaref29_Of_j5_ok (N : Nat) : EOK (bautaref29_Of_A N) (bautaref29_Of_j5_e N) ((findCut 11 (Tryd.f18.body.getD .skip)).getD .skip) :=
  join_ok (pin := bautaref29_Of_j5_in) (outs := bautaref29_Of_j5_out) (t := fun x => bautaref29_Of_j5_T N x.1 x.2.2.1 x.2.2.2.1 x.2.2.2.2.1) rfl (fun x R k => by kernel_rfl)
theorem bautaref29_Of_l3_ok (N : Nat) : EOK (bautaref29_Of_A N) (bautaref29_Of_l3_e N) ((findCut 6 (Tryd.f18.body.getD .skip)).getD .skip) :=
  loop_ok (pin := bautaref29_Of_l3_in) (outs := bautaref29_Of_l3_out) (V := (Int × Int × Int)) (s := fun x v => bautaref29_Of_l3_T N x.1 x.2.1 v.1 v.2.1 v.2.2) (mk := fun x v => (x.1, x.2.1, v.1, v.2.1, v.2.2, ())) (var := fun x => (x.2.2.1, x.2.2.2.1, x.2.2.2.2.1)) N rfl rfl (fun x => rfl) (fun x v R k => by kernel_rfl)
theorem bautaref29_Of_ok (N : Nat) : FEok Tryd.prog (bautaref29_Of_E N) :=
  fn_ok (A := bautaref29_Of_A N) (pin := [.val .str, .val (.int .i64)]) (rin := []) (pout := .tup [.val (.int .i64), .val (.int .i64)]) (rout := []) (Y := (Int × Int)) (out := bautaref29_Of_o) (t := fun x => bautaref29_Of_T N x.1 x.2.1) (dok_of trivial) mixed Tryd.func18 (by kernel_rfl) (tok_fn (tok_of rfl (by kernel_rfl) ⟨bautaref29_Of_j5_ok N, ⟨bautaref29_Of_l3_ok N, trivial⟩⟩)) rfl false (fun x => by kernel_rfl)
noncomputable def strings_IndexByte_o (x : Pat.teleL [.val .str, .val (.int .u8)] (MPat.tele [] Unit)) (y : Int) : Pat.tele (.val (.int .i64)) (MPat.tele [] Unit) := (y, ())
noncomputable def strings_IndexByte_E (N : Nat) : FE := ⟨35, [.val .str, .val (.int .u8)], [], .val (.int .i64), [], Int, fun x => strings_IndexByte N x.1 x.2.1, strings_IndexByte_o⟩
theorem strings_IndexByte_ok (N : Nat) : FEok Tryd.prog (strings_IndexByte_E N) := ⟨enters_run Tryd.func35 (by kernel_rfl), fun x y h => lib_ok rfl rfl fun W gw => strings_IndexByte_c (N := N) gw h⟩
noncomputable def place_begins_o (x : Pat.teleL [.val .str, .val (.int .i64)] (MPat.tele [] Unit)) (y : (Int × Bool)) : Pat.tele (.tup [.val (.int .i64), .val .bool]) (MPat.tele [] Unit) := (y.1, y.2, ())
noncomputable def place_begins_E (N : Nat) : FE := ⟨27, [.val .str, .val (.int .i64)], [], .tup [.val (.int .i64), .val .bool], [], (Int × Bool), fun x => place_begins N x.1 x.2.1, place_begins_o⟩
noncomputable def place_begins_xk : Nat → Exit → List Nat
  | 6, .ret => [4, 5]
  | 6, .exit 0 => [1, 6]
  | 6, .normal => [0, 1, 6, 7]
  | _, _ => []
noncomputable def place_begins_l3_in : SPat := ⟨[(0, .val .str), (0, .val (.int .i64)), (4, .val (.int .i64)), (0, .val (.int .i64))], 19, [], 0⟩
noncomputable def place_begins_l3_out : Outs place_begins_l3_in.X := (.or (.ret) ⟨[(4, .val (.int .i64)), (0, .val .bool)], 21, [], 0⟩ Unit (fun x y => (0, false, ())) (.one (.exit 0) ⟨[(1, .val (.int .i64)), (4, .val (.int .i64))], 20, [], 0⟩ Int (fun x y => (x.2.1, y, ()))))
noncomputable def place_begins_l3_e (N : Nat) : TE := ⟨6, place_begins_l3_in, place_begins_l3_out, fun x => place_begins_l3 N x.1 x.2.1 (x.2.2.1, x.2.2.2.1)⟩
noncomputable def place_begins_A (N : Nat) : Ann := ⟨⟨Tryd.prog, dOf [strings_IndexByte_E N], md⟩, 0, 0, [(6, [0, 1, 6, 7])], place_begins_xk, LOf [place_begins_l3_e N]⟩
theorem place_begins_l3_ok (N : Nat) : EOK (place_begins_A N) (place_begins_l3_e N) ((findCut 6 (Tryd.f27.body.getD .skip)).getD .skip) :=
  loop_ok (pin := place_begins_l3_in) (outs := place_begins_l3_out) (V := (Int × Int)) (s := fun x v => place_begins_l3_T N x.1 x.2.1 v.1 v.2) (mk := fun x v => (x.1, x.2.1, v.1, v.2, ())) (var := fun x => (x.2.2.1, x.2.2.2.1)) N rfl rfl (fun x => rfl) (fun x v R k => by kernel_rfl)
theorem place_begins_ok (N : Nat) : FEok Tryd.prog (place_begins_E N) :=
  fn_ok (A := place_begins_A N) (pin := [.val .str, .val (.int .i64)]) (rin := []) (pout := .tup [.val (.int .i64), .val .bool]) (rout := []) (Y := (Int × Bool)) (out := place_begins_o) (t := fun x => place_begins_T N x.1 x.2.1) (dok_of ⟨strings_IndexByte_ok N, trivial⟩) mixed Tryd.func27 (by kernel_rfl) (tok_fn (tok_of rfl (by kernel_rfl) ⟨place_begins_l3_ok N, trivial⟩)) rfl false (fun x => by kernel_rfl)
noncomputable def place_end_o (x : Pat.teleL [.val .str, .val (.int .i64)] (MPat.tele [] Unit)) (y : Int) : Pat.tele (.val (.int .i64)) (MPat.tele [] Unit) := (y, ())
noncomputable def place_end_E (N : Nat) : FE := ⟨28, [.val .str, .val (.int .i64)], [], .val (.int .i64), [], Int, fun x => place_end N x.1 x.2.1, place_end_o⟩
noncomputable def place_end_A (N : Nat) : Ann := ⟨⟨Tryd.prog, dOf [strings_IndexByte_E N], md⟩, 0, 0, [], fun _ _ => [], LOf []⟩
theorem place_end_ok (N : Nat) : FEok Tryd.prog (place_end_E N) :=
  fn_ok (A := place_end_A N) (pin := [.val .str, .val (.int .i64)]) (rin := []) (pout := .val (.int .i64)) (rout := []) (Y := Int) (out := place_end_o) (t := fun x => place_end_T N x.1 x.2.1) (dok_of ⟨strings_IndexByte_ok N, trivial⟩) mixed Tryd.func28 (by kernel_rfl) (tok_fn (tok_of rfl (by kernel_rfl) trivial)) rfl false (fun x => by kernel_rfl)
noncomputable def place_At_o (x : Pat.teleL [.val .str, .val (.int .i64), .val (.int .i64)] (MPat.tele [] Unit)) (y : (Int × Bool)) : Pat.tele (.tup [.val (.int .i64), .val .bool]) (MPat.tele [] Unit) := (y.1, y.2, ())
noncomputable def place_At_E (N : Nat) : FE := ⟨19, [.val .str, .val (.int .i64), .val (.int .i64)], [], .tup [.val (.int .i64), .val .bool], [], (Int × Bool), fun x => place_At N x.1 x.2.1 x.2.2.1, place_At_o⟩
noncomputable def place_At_A (N : Nat) : Ann := ⟨⟨Tryd.prog, dOf [place_begins_E N, place_end_E N], md⟩, 0, 0, [], fun _ _ => [], LOf []⟩
theorem place_At_ok (N : Nat) : FEok Tryd.prog (place_At_E N) :=
  fn_ok (A := place_At_A N) (pin := [.val .str, .val (.int .i64), .val (.int .i64)]) (rin := []) (pout := .tup [.val (.int .i64), .val .bool]) (rout := []) (Y := (Int × Bool)) (out := place_At_o) (t := fun x => place_At_T N x.1 x.2.1 x.2.2.1) (dok_of ⟨place_begins_ok N, ⟨place_end_ok N, trivial⟩⟩) mixed Tryd.func19 (by kernel_rfl) (tok_fn (tok_of rfl (by kernel_rfl) trivial)) rfl false (fun x => by kernel_rfl)
noncomputable def strconv_Itoa_o (x : Pat.teleL [.val (.int .i64)] (MPat.tele [] Unit)) (y : ByteArray) : Pat.tele (.val .str) (MPat.tele [] Unit) := (y, ())
noncomputable def strconv_Itoa_E (N : Nat) : FE := ⟨26, [.val (.int .i64)], [], .val .str, [], ByteArray, fun x => strconv_Itoa N x.1, strconv_Itoa_o⟩
theorem strconv_Itoa_ok (N : Nat) : FEok Tryd.prog (strconv_Itoa_E N) := ⟨enters_run Tryd.func26 (by kernel_rfl), fun x y h => lib_ok rfl rfl fun W gw => strconv_Itoa_c (N := N) gw h⟩
noncomputable def place_word_o (x : Pat.teleL [.val (.int .i64)] (MPat.tele [] Unit)) (y : ByteArray) : Pat.tele (.val .str) (MPat.tele [] Unit) := (y, ())
noncomputable def place_word_E (N : Nat) : FE := ⟨23, [.val (.int .i64)], [], .val .str, [], ByteArray, fun x => place_word N x.1, place_word_o⟩
noncomputable def place_word_A (N : Nat) : Ann := ⟨⟨Tryd.prog, dOf [strconv_Itoa_E N], md⟩, 0, 0, [], fun _ _ => [], LOf []⟩
theorem place_word_ok (N : Nat) : FEok Tryd.prog (place_word_E N) :=
  fn_ok (A := place_word_A N) (pin := [.val (.int .i64)]) (rin := []) (pout := .val .str) (rout := []) (Y := ByteArray) (out := place_word_o) (t := fun x => place_word_T N x.1) (dok_of ⟨strconv_Itoa_ok N, trivial⟩) mixed Tryd.func23 (by kernel_rfl) (tok_fn (tok_of rfl (by kernel_rfl) trivial)) rfl false (fun x => by kernel_rfl)
noncomputable def place_plain_o (x : Pat.teleL [.val .str] (MPat.tele [] Unit)) (y : ByteArray) : Pat.tele (.val .str) (MPat.tele [] Unit) := (y, ())
noncomputable def place_plain_E (N : Nat) : FE := ⟨31, [.val .str], [], .val .str, [], ByteArray, fun x => place_plain N x.1, place_plain_o⟩
noncomputable def place_plain_xk : Nat → Exit → List Nat
  | 6, .exit 0 => [3]
  | 6, .normal => [3, 8, 9, 10]
  | _, _ => []
noncomputable def place_plain_l3_in : SPat := ⟨[(3, .own 0 1), (4, .own 0 1), (0, .val (.int .i64)), (0, .val (.int .i64))], 16, [(0, ⟨5, 1, .list (.int .u8)⟩)], 1⟩
noncomputable def place_plain_l3_out : Outs place_plain_l3_in.X := (.one (.exit 0) ⟨[(3, .own 0 1)], 23, [(0, ⟨5, 1, .list (.int .u8)⟩)], 1⟩ (List Int) (fun x y => (y, ())))
noncomputable def place_plain_l3_e (N : Nat) : TE := ⟨6, place_plain_l3_in, place_plain_l3_out, fun x => place_plain_l3 N x.1 (x.2.1, x.2.2.1)⟩
noncomputable def place_plain_A (N : Nat) : Ann := ⟨⟨Tryd.prog, dOf [], md⟩, 0, 0, [(6, [3, 8, 9, 10])], place_plain_xk, LOf [place_plain_l3_e N]⟩
theorem place_plain_l3_ok (N : Nat) : EOK (place_plain_A N) (place_plain_l3_e N) ((findCut 6 (Tryd.f31.body.getD .skip)).getD .skip) :=
  loop_ok (pin := place_plain_l3_in) (outs := place_plain_l3_out) (V := (Int × (List Int))) (s := fun x v => place_plain_l3_T N x.1 v.1 v.2) (mk := fun x v => (x.1, v.1, v.2, ())) (var := fun x => (x.2.1, x.2.2.1)) N rfl rfl (fun x => rfl) (fun x v R k => by kernel_rfl)
theorem place_plain_ok (N : Nat) : FEok Tryd.prog (place_plain_E N) :=
  fn_ok (A := place_plain_A N) (pin := [.val .str]) (rin := []) (pout := .val .str) (rout := []) (Y := ByteArray) (out := place_plain_o) (t := fun x => place_plain_T N x.1) (dok_of trivial) mixed Tryd.func31 (by kernel_rfl) (tok_fn (tok_of rfl (by kernel_rfl) ⟨place_plain_l3_ok N, trivial⟩)) rfl false (fun x => by kernel_rfl)
noncomputable def strings_Repeat_o (x : Pat.teleL [.val .str, .val (.int .i64)] (MPat.tele [] Unit)) (y : ByteArray) : Pat.tele (.val .str) (MPat.tele [] Unit) := (y, ())
noncomputable def strings_Repeat_E (N : Nat) : FE := ⟨32, [.val .str, .val (.int .i64)], [], .val .str, [], ByteArray, fun x => strings_Repeat N x.1 x.2.1, strings_Repeat_o⟩
theorem strings_Repeat_ok (N : Nat) : FEok Tryd.prog (strings_Repeat_E N) := ⟨enters_run Tryd.func32 (by kernel_rfl), fun x y h => lib_ok rfl rfl fun W gw => strings_Repeat_c (N := N) gw h⟩
noncomputable def place_excerpt_o (x : Pat.teleL [.val .str, .val (.int .i64)] (MPat.tele [] Unit)) (y : ByteArray) : Pat.tele (.val .str) (MPat.tele [] Unit) := (y, ())
noncomputable def place_excerpt_E (N : Nat) : FE := ⟨22, [.val .str, .val (.int .i64)], [], .val .str, [], ByteArray, fun x => place_excerpt N x.1 x.2.1, place_excerpt_o⟩
noncomputable def place_excerpt_xk : Nat → Exit → List Nat
  | 13, .ret => [4]
  | _, _ => []
noncomputable def place_excerpt_j6_in : SPat := ⟨[(0, .val .str), (0, .val (.int .i64)), (3, .val (.int .i64)), (0, .val (.int .i64))], 33, [], 0⟩
noncomputable def place_excerpt_j6_out : Outs place_excerpt_j6_in.X := (.one (.ret) ⟨[(4, .val .str)], 35, [], 0⟩ ByteArray (fun x y => (y, ())))
noncomputable def place_excerpt_j6_e (N : Nat) : TE := ⟨13, place_excerpt_j6_in, place_excerpt_j6_out, fun x => place_excerpt_j6 N x.1 x.2.1 x.2.2.1 x.2.2.2.1⟩
noncomputable def place_excerpt_A (N : Nat) : Ann := ⟨⟨Tryd.prog, dOf [place_inside_E N, place_start_E N, place_end_E N, place_plain_E N, strings_Repeat_E N], md⟩, 0, 0, [(13, [0, 1, 5, 6])], place_excerpt_xk, LOf [place_excerpt_j6_e N]⟩
theorem place_excerpt_j6_ok (N : Nat) : EOK (place_excerpt_A N) (place_excerpt_j6_e N) ((findCut 13 (Tryd.f22.body.getD .skip)).getD .skip) :=
  join_ok (pin := place_excerpt_j6_in) (outs := place_excerpt_j6_out) (t := fun x => place_excerpt_j6_T N x.1 x.2.1 x.2.2.1 x.2.2.2.1) rfl (fun x R k => by kernel_rfl)
theorem place_excerpt_ok (N : Nat) : FEok Tryd.prog (place_excerpt_E N) :=
  fn_ok (A := place_excerpt_A N) (pin := [.val .str, .val (.int .i64)]) (rin := []) (pout := .val .str) (rout := []) (Y := ByteArray) (out := place_excerpt_o) (t := fun x => place_excerpt_T N x.1 x.2.1) (dok_of ⟨place_inside_ok N, ⟨place_start_ok N, ⟨place_end_ok N, ⟨place_plain_ok N, ⟨strings_Repeat_ok N, trivial⟩⟩⟩⟩⟩) mixed Tryd.func22 (by kernel_rfl) (tok_fn (tok_of rfl (by kernel_rfl) ⟨place_excerpt_j6_ok N, trivial⟩)) rfl false (fun x => by kernel_rfl)
noncomputable def place_Tell_o (x : Pat.teleL [.val .str, .val (.int .i64), .val (.int .i64)] (MPat.tele [] Unit)) (y : ByteArray) : Pat.tele (.val .str) (MPat.tele [] Unit) := (y, ())
noncomputable def place_Tell_E (N : Nat) : FE := ⟨14, [.val .str, .val (.int .i64), .val (.int .i64)], [], .val .str, [], ByteArray, fun x => place_Tell N x.1 x.2.1 x.2.2.1, place_Tell_o⟩
noncomputable def place_Tell_A (N : Nat) : Ann := ⟨⟨Tryd.prog, dOf [place_of_E N, strconv_Itoa_E N, place_word_E N, place_excerpt_E N], md⟩, 0, 0, [], fun _ _ => [], LOf []⟩
theorem place_Tell_ok (N : Nat) : FEok Tryd.prog (place_Tell_E N) :=
  fn_ok (A := place_Tell_A N) (pin := [.val .str, .val (.int .i64), .val (.int .i64)]) (rin := []) (pout := .val .str) (rout := []) (Y := ByteArray) (out := place_Tell_o) (t := fun x => place_Tell_T N x.1 x.2.1 x.2.2.1) (dok_of ⟨place_of_ok N, ⟨strconv_Itoa_ok N, ⟨place_word_ok N, ⟨place_excerpt_ok N, trivial⟩⟩⟩⟩) mixed Tryd.func14 (by kernel_rfl) (tok_fn (tok_of rfl (by kernel_rfl) trivial)) rfl false (fun x => by kernel_rfl)
noncomputable def bautalaw29_lives_o (x : Pat.teleL [] (MPat.tele [] Unit)) (y : Bool) : Pat.tele (.val .bool) (MPat.tele [] Unit) := (y, ())
noncomputable def bautalaw29_lives_E (N : Nat) : FE := ⟨11, [], [], .val .bool, [], Bool, fun x => bautalaw29_lives N, bautalaw29_lives_o⟩
noncomputable def bautalaw29_lives_A (N : Nat) : Ann := ⟨⟨Tryd.prog, dOf [place_Tell_E N], md⟩, 0, 0, [], fun _ _ => [], LOf []⟩
theorem bautalaw29_lives_ok (N : Nat) : FEok Tryd.prog (bautalaw29_lives_E N) :=
  fn_ok (A := bautalaw29_lives_A N) (pin := []) (rin := []) (pout := .val .bool) (rout := []) (Y := Bool) (out := bautalaw29_lives_o) (t := fun x => bautalaw29_lives_T N) (dok_of ⟨place_Tell_ok N, trivial⟩) mixed Tryd.func11 (by kernel_rfl) (tok_fn (tok_of rfl (by kernel_rfl) trivial)) rfl false (fun x => by kernel_rfl)
noncomputable def bautalaw29_PlaceOf_o (x : Pat.teleL [.val .str, .val (.int .i64)] (MPat.tele [] Unit)) (y : Bool) : Pat.tele (.val .bool) (MPat.tele [] Unit) := (y, ())
noncomputable def bautalaw29_PlaceOf_E (N : Nat) : FE := ⟨6, [.val .str, .val (.int .i64)], [], .val .bool, [], Bool, fun x => bautalaw29_PlaceOf N x.1 x.2.1, bautalaw29_PlaceOf_o⟩
noncomputable def bautalaw29_PlaceOf_xk : Nat → Exit → List Nat
  | 13, .ret => [4]
  | _, _ => []
noncomputable def bautalaw29_PlaceOf_j6_in : SPat := ⟨[(0, .val .str), (0, .val (.int .i64)), (3, .val (.int .i64)), (0, .val (.int .i64))], 64, [], 0⟩
noncomputable def bautalaw29_PlaceOf_j6_out : Outs bautalaw29_PlaceOf_j6_in.X := (.one (.ret) ⟨[(4, .val .bool)], 66, [], 0⟩ Bool (fun x y => (y, ())))
noncomputable def bautalaw29_PlaceOf_j6_e (N : Nat) : TE := ⟨13, bautalaw29_PlaceOf_j6_in, bautalaw29_PlaceOf_j6_out, fun x => bautalaw29_PlaceOf_j6 N x.1 x.2.1 x.2.2.1 x.2.2.2.1⟩
noncomputable def bautalaw29_PlaceOf_A (N : Nat) : Ann := ⟨⟨Tryd.prog, dOf [bautalaw29_short_E N, place_Of_E N, bautaref29_Of_E N, place_At_E N, bautalaw29_lives_E N], md⟩, 0, 0, [(13, [0, 1, 5, 6])], bautalaw29_PlaceOf_xk, LOf [bautalaw29_PlaceOf_j6_e N]⟩
theorem bautalaw29_PlaceOf_j6_ok (N : Nat) : EOK (bautalaw29_PlaceOf_A N) (bautalaw29_PlaceOf_j6_e N) ((findCut 13 (Tryd.f6.body.getD .skip)).getD .skip) :=
  join_ok (pin := bautalaw29_PlaceOf_j6_in) (outs := bautalaw29_PlaceOf_j6_out) (t := fun x => bautalaw29_PlaceOf_j6_T N x.1 x.2.1 x.2.2.1 x.2.2.2.1) rfl (fun x R k => by kernel_rfl)
theorem bautalaw29_PlaceOf_ok (N : Nat) : FEok Tryd.prog (bautalaw29_PlaceOf_E N) :=
  fn_ok (A := bautalaw29_PlaceOf_A N) (pin := [.val .str, .val (.int .i64)]) (rin := []) (pout := .val .bool) (rout := []) (Y := Bool) (out := bautalaw29_PlaceOf_o) (t := fun x => bautalaw29_PlaceOf_T N x.1 x.2.1) (dok_of ⟨bautalaw29_short_ok N, ⟨place_Of_ok N, ⟨bautaref29_Of_ok N, ⟨place_At_ok N, ⟨bautalaw29_lives_ok N, trivial⟩⟩⟩⟩⟩) mixed Tryd.func6 (by kernel_rfl) (tok_fn (tok_of rfl (by kernel_rfl) ⟨bautalaw29_PlaceOf_j6_ok N, trivial⟩)) rfl false (fun x => by kernel_rfl)
noncomputable def bautaref29_Lines_o (x : Pat.teleL [.val .str] (MPat.tele [] Unit)) (y : (List ByteArray)) : Pat.tele (.own 0 1) (MPat.tele [(0, ⟨9, 1, .list .str⟩)] Unit) := (y, ())
noncomputable def bautaref29_Lines_E (N : Nat) : FE := ⟨16, [.val .str], [], .own 0 1, [(0, ⟨9, 1, .list .str⟩)], (List ByteArray), fun x => bautaref29_Lines N x.1, bautaref29_Lines_o⟩
noncomputable def bautaref29_Lines_xk : Nat → Exit → List Nat
  | 6, .exit 0 => [0, 3, 4]
  | 6, .normal => [0, 3, 4, 5]
  | _, _ => []
noncomputable def bautaref29_Lines_l3_in : SPat := ⟨[(0, .val .str), (2, .own 0 1), (0, .val (.int .i64)), (0, .val (.int .i64))], 26, [(0, ⟨9, 1, .list .str⟩)], 1⟩
noncomputable def bautaref29_Lines_l3_out : Outs bautaref29_Lines_l3_in.X := (.one (.exit 0) ⟨[(0, .val .str), (2, .own 0 1), (0, .val (.int .i64))], 27, [(0, ⟨9, 1, .list .str⟩)], 1⟩ (Int × (List ByteArray)) (fun x y => (x.1, y.1, y.2, ())))
noncomputable def bautaref29_Lines_l3_e (N : Nat) : TE := ⟨6, bautaref29_Lines_l3_in, bautaref29_Lines_l3_out, fun x => bautaref29_Lines_l3 N x.1 (x.2.1, x.2.2.1, x.2.2.2.1)⟩
noncomputable def bautaref29_Lines_A (N : Nat) : Ann := ⟨⟨Tryd.prog, dOf [], md⟩, 0, 0, [(6, [0, 3, 4, 5])], bautaref29_Lines_xk, LOf [bautaref29_Lines_l3_e N]⟩
theorem bautaref29_Lines_l3_ok (N : Nat) : EOK (bautaref29_Lines_A N) (bautaref29_Lines_l3_e N) ((findCut 6 (Tryd.f16.body.getD .skip)).getD .skip) :=
  loop_ok (pin := bautaref29_Lines_l3_in) (outs := bautaref29_Lines_l3_out) (V := (Int × Int × (List ByteArray))) (s := fun x v => bautaref29_Lines_l3_T N x.1 v.1 v.2.1 v.2.2) (mk := fun x v => (x.1, v.1, v.2.1, v.2.2, ())) (var := fun x => (x.2.1, x.2.2.1, x.2.2.2.1)) N rfl rfl (fun x => rfl) (fun x v R k => by kernel_rfl)
theorem bautaref29_Lines_ok (N : Nat) : FEok Tryd.prog (bautaref29_Lines_E N) :=
  fn_ok (A := bautaref29_Lines_A N) (pin := [.val .str]) (rin := []) (pout := .own 0 1) (rout := [(0, ⟨9, 1, .list .str⟩)]) (Y := (List ByteArray)) (out := bautaref29_Lines_o) (t := fun x => bautaref29_Lines_T N x.1) (dok_of trivial) mixed Tryd.func16 (by kernel_rfl) (tok_fn (tok_of rfl (by kernel_rfl) ⟨bautaref29_Lines_l3_ok N, trivial⟩)) rfl false (fun x => by kernel_rfl)
noncomputable def bautaref29_At_o (x : Pat.teleL [.val .str, .val (.int .i64), .val (.int .i64)] (MPat.tele [] Unit)) (y : (Int × Bool)) : Pat.tele (.tup [.val (.int .i64), .val .bool]) (MPat.tele [] Unit) := (y.1, y.2, ())
noncomputable def bautaref29_At_E (N : Nat) : FE := ⟨20, [.val .str, .val (.int .i64), .val (.int .i64)], [], .tup [.val (.int .i64), .val .bool], [], (Int × Bool), fun x => bautaref29_At N x.1 x.2.1 x.2.2.1, bautaref29_At_o⟩
noncomputable def bautaref29_At_xk : Nat → Exit → List Nat
  | 12, .exit 0 => [2, 9]
  | 12, .normal => [1, 2, 8, 9, 10]
  | 9, .ret => [6, 7]
  | _, _ => []
noncomputable def bautaref29_At_l6_in : SPat := ⟨[(1, .val (.int .i64)), (0, .val (.int .i64)), (5, .own 0 1), (0, .val (.int .i64)), (0, .val (.int .i64))], 43, [(0, ⟨9, 1, .list .str⟩)], 1⟩
noncomputable def bautaref29_At_l6_out : Outs bautaref29_At_l6_in.X := (.one (.exit 0) ⟨[(2, .val (.int .i64)), (6, .val (.int .i64))], 44, [], 0⟩ Int (fun x y => (x.2.1, y, ())))
noncomputable def bautaref29_At_l6_e (N : Nat) : TE := ⟨12, bautaref29_At_l6_in, bautaref29_At_l6_out, fun x => bautaref29_At_l6 N x.1 x.2.2.2.2.1 (x.2.2.1, x.2.2.2.1)⟩
noncomputable def bautaref29_At_j4_in : SPat := ⟨[(1, .val (.int .i64)), (0, .val (.int .i64)), (5, .own 0 1)], 45, [(0, ⟨9, 1, .list .str⟩)], 1⟩
noncomputable def bautaref29_At_j4_out : Outs bautaref29_At_j4_in.X := (.one (.ret) ⟨[(6, .val (.int .i64)), (0, .val .bool)], 46, [], 0⟩ Int (fun x y => (y, true, ())))
noncomputable def bautaref29_At_j4_e (N : Nat) : TE := ⟨9, bautaref29_At_j4_in, bautaref29_At_j4_out, fun x => bautaref29_At_j4 N x.1 x.2.1 x.2.2.1⟩
noncomputable def bautaref29_At_A (N : Nat) : Ann := ⟨⟨Tryd.prog, dOf [bautaref29_Lines_E N], md⟩, 0, 0, [(12, [1, 2, 8, 9, 10]), (9, [1, 2, 8])], bautaref29_At_xk, LOf [bautaref29_At_l6_e N, bautaref29_At_j4_e N]⟩
theorem bautaref29_At_l6_ok (N : Nat) : EOK (bautaref29_At_A N) (bautaref29_At_l6_e N) ((findCut 12 (Tryd.f20.body.getD .skip)).getD .skip) :=
  loop_ok (pin := bautaref29_At_l6_in) (outs := bautaref29_At_l6_out) (V := (Int × Int)) (s := fun x v => bautaref29_At_l6_T N x.1 x.2.2.2.2.1 v.1 v.2) (mk := fun x v => (x.1, x.2.1, v.1, v.2, x.2.2.2.2.1, ())) (var := fun x => (x.2.2.1, x.2.2.2.1)) N rfl rfl (fun x => rfl) (fun x v R k => by kernel_rfl)
theorem bautaref29_At_j4_ok (N : Nat) : EOK (bautaref29_At_A N) (bautaref29_At_j4_e N) ((findCut 9 (Tryd.f20.body.getD .skip)).getD .skip) :=
  join_ok (pin := bautaref29_At_j4_in) (outs := bautaref29_At_j4_out) (t := fun x => bautaref29_At_j4_T N x.1 x.2.1 x.2.2.1) rfl (fun x R k => by kernel_rfl)
theorem bautaref29_At_ok (N : Nat) : FEok Tryd.prog (bautaref29_At_E N) :=
  fn_ok (A := bautaref29_At_A N) (pin := [.val .str, .val (.int .i64), .val (.int .i64)]) (rin := []) (pout := .tup [.val (.int .i64), .val .bool]) (rout := []) (Y := (Int × Bool)) (out := bautaref29_At_o) (t := fun x => bautaref29_At_T N x.1 x.2.1 x.2.2.1) (dok_of ⟨bautaref29_Lines_ok N, trivial⟩) mixed Tryd.func20 (by kernel_rfl) (tok_fn (tok_of rfl (by kernel_rfl) ⟨bautaref29_At_l6_ok N, ⟨bautaref29_At_j4_ok N, trivial⟩⟩)) rfl false (fun x => by kernel_rfl)
noncomputable def place_Line_o (x : Pat.teleL [.val .str, .val (.int .i64)] (MPat.tele [] Unit)) (y : (ByteArray × Bool)) : Pat.tele (.tup [.val .str, .val .bool]) (MPat.tele [] Unit) := (y.1, y.2, ())
noncomputable def place_Line_E (N : Nat) : FE := ⟨21, [.val .str, .val (.int .i64)], [], .tup [.val .str, .val .bool], [], (ByteArray × Bool), fun x => place_Line N x.1 x.2.1, place_Line_o⟩
noncomputable def place_Line_A (N : Nat) : Ann := ⟨⟨Tryd.prog, dOf [place_begins_E N, place_end_E N], md⟩, 0, 0, [], fun _ _ => [], LOf []⟩
theorem place_Line_ok (N : Nat) : FEok Tryd.prog (place_Line_E N) :=
  fn_ok (A := place_Line_A N) (pin := [.val .str, .val (.int .i64)]) (rin := []) (pout := .tup [.val .str, .val .bool]) (rout := []) (Y := (ByteArray × Bool)) (out := place_Line_o) (t := fun x => place_Line_T N x.1 x.2.1) (dok_of ⟨place_begins_ok N, ⟨place_end_ok N, trivial⟩⟩) mixed Tryd.func21 (by kernel_rfl) (tok_fn (tok_of rfl (by kernel_rfl) trivial)) rfl false (fun x => by kernel_rfl)
noncomputable def bautalaw29_PlaceAt_o (x : Pat.teleL [.val .str, .val (.int .i64), .val (.int .i64)] (MPat.tele [] Unit)) (y : Bool) : Pat.tele (.val .bool) (MPat.tele [] Unit) := (y, ())
noncomputable def bautalaw29_PlaceAt_E (N : Nat) : FE := ⟨7, [.val .str, .val (.int .i64), .val (.int .i64)], [], .val .bool, [], Bool, fun x => bautalaw29_PlaceAt N x.1 x.2.1 x.2.2.1, bautalaw29_PlaceAt_o⟩
noncomputable def bautalaw29_PlaceAt_xk : Nat → Exit → List Nat
  | 15, .ret => [6]
  | 15, .normal => [1, 7, 8, 9, 10, 11, 12, 13]
  | 17, .ret => [6]
  | _, _ => []
noncomputable def bautalaw29_PlaceAt_j7_in : SPat := ⟨[(1, .val (.int .i64)), (5, .val (.int .i64)), (0, .val .bool), (0, .val (.int .i64)), (0, .val .bool), (0, .own 0 1), (0, .val .str), (0, .val .bool), (31, .val .bool)], 44, [(0, ⟨9, 1, .list .str⟩)], 1⟩
noncomputable def bautalaw29_PlaceAt_j7_out : Outs bautalaw29_PlaceAt_j7_in.X := (.or (.ret) ⟨[(6, .val .bool)], 83, [], 0⟩ Bool (fun x y => (y, ())) (.one (.normal) ⟨[(1, .val (.int .i64)), (5, .val (.int .i64)), (0, .val .bool), (0, .val (.int .i64)), (0, .val .bool), (0, .own 0 1), (0, .val .str), (0, .val .bool)], 76, [(0, ⟨9, 1, .list .str⟩)], 1⟩ Unit (fun x y => (x.1, x.2.1, x.2.2.1, x.2.2.2.1, x.2.2.2.2.1, x.2.2.2.2.2.1, x.2.2.2.2.2.2.1, x.2.2.2.2.2.2.2.2.1, ()))))
noncomputable def bautalaw29_PlaceAt_j7_e (N : Nat) : TE := ⟨15, bautalaw29_PlaceAt_j7_in, bautalaw29_PlaceAt_j7_out, fun x => bautalaw29_PlaceAt_j7 N x.2.1 x.2.2.1 x.2.2.2.2.1 x.2.2.2.2.2.1 x.2.2.2.2.2.2.1 x.2.2.2.2.2.2.2.1⟩
noncomputable def bautalaw29_PlaceAt_j8_in : SPat := ⟨[(1, .val (.int .i64)), (5, .val (.int .i64)), (0, .val .bool), (0, .val (.int .i64)), (0, .val .bool), (0, .own 0 1), (0, .val .str), (0, .val .bool)], 76, [(0, ⟨9, 1, .list .str⟩)], 1⟩
noncomputable def bautalaw29_PlaceAt_j8_out : Outs bautalaw29_PlaceAt_j8_in.X := (.one (.ret) ⟨[(6, .val .bool)], 83, [], 0⟩ Bool (fun x y => (y, ())))
noncomputable def bautalaw29_PlaceAt_j8_e (N : Nat) : TE := ⟨17, bautalaw29_PlaceAt_j8_in, bautalaw29_PlaceAt_j8_out, fun x => bautalaw29_PlaceAt_j8 N x.1 x.2.1 x.2.2.1 x.2.2.2.1 x.2.2.2.2.1 x.2.2.2.2.2.1 x.2.2.2.2.2.2.1 x.2.2.2.2.2.2.2.1⟩
noncomputable def bautalaw29_PlaceAt_A (N : Nat) : Ann := ⟨⟨Tryd.prog, dOf [bautalaw29_short_E N, place_At_E N, bautaref29_At_E N, bautaref29_Lines_E N, place_Line_E N, bautalaw29_lives_E N], md⟩, 0, 0, [(15, [1, 7, 8, 9, 10, 11, 12, 13, 45]), (17, [1, 7, 8, 9, 10, 11, 12, 13])], bautalaw29_PlaceAt_xk, LOf [bautalaw29_PlaceAt_j7_e N, bautalaw29_PlaceAt_j8_e N]⟩
theorem bautalaw29_PlaceAt_j7_ok (N : Nat) : EOK (bautalaw29_PlaceAt_A N) (bautalaw29_PlaceAt_j7_e N) ((findCut 15 (Tryd.f7.body.getD .skip)).getD .skip) :=
  join_ok (pin := bautalaw29_PlaceAt_j7_in) (outs := bautalaw29_PlaceAt_j7_out) (t := fun x => bautalaw29_PlaceAt_j7_T N x.2.1 x.2.2.1 x.2.2.2.2.1 x.2.2.2.2.2.1 x.2.2.2.2.2.2.1 x.2.2.2.2.2.2.2.1) rfl (fun x R k => by kernel_rfl)
theorem bautalaw29_PlaceAt_j8_ok (N : Nat) : EOK (bautalaw29_PlaceAt_A N) (bautalaw29_PlaceAt_j8_e N) ((findCut 17 (Tryd.f7.body.getD .skip)).getD .skip) :=
  join_ok (pin := bautalaw29_PlaceAt_j8_in) (outs := bautalaw29_PlaceAt_j8_out) (t := fun x => bautalaw29_PlaceAt_j8_T N x.1 x.2.1 x.2.2.1 x.2.2.2.1 x.2.2.2.2.1 x.2.2.2.2.2.1 x.2.2.2.2.2.2.1 x.2.2.2.2.2.2.2.1) rfl (fun x R k => by kernel_rfl)
theorem bautalaw29_PlaceAt_ok (N : Nat) : FEok Tryd.prog (bautalaw29_PlaceAt_E N) :=
  fn_ok (A := bautalaw29_PlaceAt_A N) (pin := [.val .str, .val (.int .i64), .val (.int .i64)]) (rin := []) (pout := .val .bool) (rout := []) (Y := Bool) (out := bautalaw29_PlaceAt_o) (t := fun x => bautalaw29_PlaceAt_T N x.1 x.2.1 x.2.2.1) (dok_of ⟨bautalaw29_short_ok N, ⟨place_At_ok N, ⟨bautaref29_At_ok N, ⟨bautaref29_Lines_ok N, ⟨place_Line_ok N, ⟨bautalaw29_lives_ok N, trivial⟩⟩⟩⟩⟩⟩) mixed Tryd.func7 (by kernel_rfl) (tok_fn (tok_of rfl (by kernel_rfl) ⟨bautalaw29_PlaceAt_j7_ok N, ⟨bautalaw29_PlaceAt_j8_ok N, trivial⟩⟩)) rfl false (fun x => by kernel_rfl)
noncomputable def place_Excerpt_o (x : Pat.teleL [.val .str, .val (.int .i64)] (MPat.tele [] Unit)) (y : ByteArray) : Pat.tele (.val .str) (MPat.tele [] Unit) := (y, ())
noncomputable def place_Excerpt_E (N : Nat) : FE := ⟨9, [.val .str, .val (.int .i64)], [], .val .str, [], ByteArray, fun x => place_Excerpt N x.1 x.2.1, place_Excerpt_o⟩
noncomputable def place_Excerpt_A (N : Nat) : Ann := ⟨⟨Tryd.prog, dOf [place_excerpt_E N], md⟩, 0, 0, [], fun _ _ => [], LOf []⟩
theorem place_Excerpt_ok (N : Nat) : FEok Tryd.prog (place_Excerpt_E N) :=
  fn_ok (A := place_Excerpt_A N) (pin := [.val .str, .val (.int .i64)]) (rin := []) (pout := .val .str) (rout := []) (Y := ByteArray) (out := place_Excerpt_o) (t := fun x => place_Excerpt_T N x.1 x.2.1) (dok_of ⟨place_excerpt_ok N, trivial⟩) mixed Tryd.func9 (by kernel_rfl) (tok_fn (tok_of rfl (by kernel_rfl) trivial)) rfl false (fun x => by kernel_rfl)
noncomputable def bautaref29_Excerpt_o (x : Pat.teleL [.val .str, .val (.int .i64)] (MPat.tele [] Unit)) (y : ByteArray) : Pat.tele (.val .str) (MPat.tele [] Unit) := (y, ())
noncomputable def bautaref29_Excerpt_E (N : Nat) : FE := ⟨10, [.val .str, .val (.int .i64)], [], .val .str, [], ByteArray, fun x => bautaref29_Excerpt N x.1 x.2.1, bautaref29_Excerpt_o⟩
noncomputable def bautaref29_Excerpt_xk : Nat → Exit → List Nat
  | 22, .exit 0 => [6, 8, 10]
  | 22, .normal => [6, 8, 10, 11]
  | 34, .exit 2 => [10]
  | 34, .normal => [6, 10, 12]
  | 19, .ret => [4]
  | _, _ => []
noncomputable def bautaref29_Excerpt_l11_in : SPat := ⟨[(6, .val (.int .i64)), (1, .val (.int .i64)), (1, .own 0 1), (0, .val (.int .i64))], 73, [(0, ⟨5, 1, .list (.int .u8)⟩)], 1⟩
noncomputable def bautaref29_Excerpt_l11_out : Outs bautaref29_Excerpt_l11_in.X := (.one (.exit 0) ⟨[(6, .val (.int .i64)), (1, .val (.int .i64)), (1, .own 0 1)], 74, [(0, ⟨5, 1, .list (.int .u8)⟩)], 1⟩ (List Int) (fun x y => (x.1, x.2.1, y, ())))
noncomputable def bautaref29_Excerpt_l11_e (N : Nat) : TE := ⟨22, bautaref29_Excerpt_l11_in, bautaref29_Excerpt_l11_out, fun x => bautaref29_Excerpt_l11 N (x.2.2.1, x.2.2.2.1)⟩
noncomputable def bautaref29_Excerpt_l17_in : SPat := ⟨[(6, .val (.int .i64)), (3, .own 0 1), (1, .val (.int .i64))], 72, [(0, ⟨5, 1, .list (.int .u8)⟩)], 1⟩
noncomputable def bautaref29_Excerpt_l17_out : Outs bautaref29_Excerpt_l17_in.X := (.one (.exit 2) ⟨[(10, .own 0 1)], 74, [(0, ⟨5, 1, .list (.int .u8)⟩)], 1⟩ (List Int) (fun x y => (y, ())))
noncomputable def bautaref29_Excerpt_l17_e (N : Nat) : TE := ⟨34, bautaref29_Excerpt_l17_in, bautaref29_Excerpt_l17_out, fun x => bautaref29_Excerpt_l17 N x.1 (x.2.1, x.2.2.1)⟩
noncomputable def bautaref29_Excerpt_j9_in : SPat := ⟨[(6, .val (.int .i64)), (0, .val .str), (0, .val (.int .i64)), (0, .val (.int .i64))], 75, [], 0⟩
noncomputable def bautaref29_Excerpt_j9_out : Outs bautaref29_Excerpt_j9_in.X := (.one (.ret) ⟨[(4, .val .str)], 80, [], 0⟩ ByteArray (fun x y => (y, ())))
noncomputable def bautaref29_Excerpt_j9_e (N : Nat) : TE := ⟨19, bautaref29_Excerpt_j9_in, bautaref29_Excerpt_j9_out, fun x => bautaref29_Excerpt_j9 N x.1 x.2.1 x.2.2.1 x.2.2.2.1⟩
noncomputable def bautaref29_Excerpt_A (N : Nat) : Ann := ⟨⟨Tryd.prog, dOf [bautaref29_Of_E N, bautaref29_Lines_E N], md⟩, 0, 0, [(22, [6, 8, 10, 11]), (34, [6, 10, 12]), (19, [6, 7, 8, 9])], bautaref29_Excerpt_xk, LOf [bautaref29_Excerpt_l11_e N, bautaref29_Excerpt_l17_e N, bautaref29_Excerpt_j9_e N]⟩
theorem bautaref29_Excerpt_l11_ok (N : Nat) : EOK (bautaref29_Excerpt_A N) (bautaref29_Excerpt_l11_e N) ((findCut 22 (Tryd.f10.body.getD .skip)).getD .skip) :=
  loop_ok (pin := bautaref29_Excerpt_l11_in) (outs := bautaref29_Excerpt_l11_out) (V := (Int × (List Int))) (s := fun x v => bautaref29_Excerpt_l11_T N v.1 v.2) (mk := fun x v => (x.1, x.2.1, v.1, v.2, ())) (var := fun x => (x.2.2.1, x.2.2.2.1)) N rfl rfl (fun x => rfl) (fun x v R k => by kernel_rfl)
theorem bautaref29_Excerpt_l17_ok (N : Nat) : EOK (bautaref29_Excerpt_A N) (bautaref29_Excerpt_l17_e N) ((findCut 34 (Tryd.f10.body.getD .skip)).getD .skip) :=
  loop_ok (pin := bautaref29_Excerpt_l17_in) (outs := bautaref29_Excerpt_l17_out) (V := (Int × (List Int))) (s := fun x v => bautaref29_Excerpt_l17_T N x.1 v.1 v.2) (mk := fun x v => (x.1, v.1, v.2, ())) (var := fun x => (x.2.1, x.2.2.1)) N rfl rfl (fun x => rfl) (fun x v R k => by kernel_rfl)
theorem bautaref29_Excerpt_j9_ok (N : Nat) : EOK (bautaref29_Excerpt_A N) (bautaref29_Excerpt_j9_e N) ((findCut 19 (Tryd.f10.body.getD .skip)).getD .skip) :=
  join_ok (pin := bautaref29_Excerpt_j9_in) (outs := bautaref29_Excerpt_j9_out) (t := fun x => bautaref29_Excerpt_j9_T N x.1 x.2.1 x.2.2.1 x.2.2.2.1) rfl (fun x R k => by kernel_rfl)
theorem bautaref29_Excerpt_ok (N : Nat) : FEok Tryd.prog (bautaref29_Excerpt_E N) :=
  fn_ok (A := bautaref29_Excerpt_A N) (pin := [.val .str, .val (.int .i64)]) (rin := []) (pout := .val .str) (rout := []) (Y := ByteArray) (out := bautaref29_Excerpt_o) (t := fun x => bautaref29_Excerpt_T N x.1 x.2.1) (dok_of ⟨bautaref29_Of_ok N, ⟨bautaref29_Lines_ok N, trivial⟩⟩) mixed Tryd.func10 (by kernel_rfl) (tok_fn (tok_of rfl (by kernel_rfl) ⟨bautaref29_Excerpt_l11_ok N, ⟨bautaref29_Excerpt_l17_ok N, ⟨bautaref29_Excerpt_j9_ok N, trivial⟩⟩⟩)) rfl false (fun x => by kernel_rfl)
noncomputable def bautalaw29_PlaceExcerpts_o (x : Pat.teleL [.val .str, .val (.int .i64)] (MPat.tele [] Unit)) (y : Bool) : Pat.tele (.val .bool) (MPat.tele [] Unit) := (y, ())
noncomputable def bautalaw29_PlaceExcerpts_E (N : Nat) : FE := ⟨3, [.val .str, .val (.int .i64)], [], .val .bool, [], Bool, fun x => bautalaw29_PlaceExcerpts N x.1 x.2.1, bautalaw29_PlaceExcerpts_o⟩
noncomputable def bautalaw29_PlaceExcerpts_A (N : Nat) : Ann := ⟨⟨Tryd.prog, dOf [bautalaw29_short_E N, place_Excerpt_E N, bautaref29_Excerpt_E N, bautalaw29_lives_E N], md⟩, 0, 0, [], fun _ _ => [], LOf []⟩
theorem bautalaw29_PlaceExcerpts_ok (N : Nat) : FEok Tryd.prog (bautalaw29_PlaceExcerpts_E N) :=
  fn_ok (A := bautalaw29_PlaceExcerpts_A N) (pin := [.val .str, .val (.int .i64)]) (rin := []) (pout := .val .bool) (rout := []) (Y := Bool) (out := bautalaw29_PlaceExcerpts_o) (t := fun x => bautalaw29_PlaceExcerpts_T N x.1 x.2.1) (dok_of ⟨bautalaw29_short_ok N, ⟨place_Excerpt_ok N, ⟨bautaref29_Excerpt_ok N, ⟨bautalaw29_lives_ok N, trivial⟩⟩⟩⟩) mixed Tryd.func3 (by kernel_rfl) (tok_fn (tok_of rfl (by kernel_rfl) trivial)) rfl false (fun x => by kernel_rfl)
noncomputable def bautalaw29_PlaceWide_o (x : Pat.teleL [.val .str, .val (.int .i64)] (MPat.tele [] Unit)) (y : Bool) : Pat.tele (.val .bool) (MPat.tele [] Unit) := (y, ())
noncomputable def bautalaw29_PlaceWide_E (N : Nat) : FE := ⟨5, [.val .str, .val (.int .i64)], [], .val .bool, [], Bool, fun x => bautalaw29_PlaceWide N x.1 x.2.1, bautalaw29_PlaceWide_o⟩
noncomputable def bautalaw29_PlaceWide_xk : Nat → Exit → List Nat
  | 23, .ret => [4]
  | 19, .ret => [4]
  | 13, .ret => [4]
  | _, _ => []
noncomputable def bautalaw29_PlaceWide_j11_in : SPat := ⟨[(6, .own 0 1)], 95, [(0, ⟨9, 1, .list .str⟩)], 1⟩
noncomputable def bautalaw29_PlaceWide_j11_out : Outs bautalaw29_PlaceWide_j11_in.X := (.one (.ret) ⟨[(4, .val .bool)], 97, [], 0⟩ Bool (fun x y => (y, ())))
noncomputable def bautalaw29_PlaceWide_j11_e (N : Nat) : TE := ⟨23, bautalaw29_PlaceWide_j11_in, bautalaw29_PlaceWide_j11_out, fun x => bautalaw29_PlaceWide_j11 N x.1⟩
noncomputable def bautalaw29_PlaceWide_j9_in : SPat := ⟨[(0, .val .str), (5, .own 0 1), (0, .val (.int .i64))], 94, [(0, ⟨9, 1, .list .str⟩)], 1⟩
noncomputable def bautalaw29_PlaceWide_j9_out : Outs bautalaw29_PlaceWide_j9_in.X := (.one (.ret) ⟨[(4, .val .bool)], 97, [], 0⟩ Bool (fun x y => (y, ())))
noncomputable def bautalaw29_PlaceWide_j9_e (N : Nat) : TE := ⟨19, bautalaw29_PlaceWide_j9_in, bautalaw29_PlaceWide_j9_out, fun x => bautalaw29_PlaceWide_j9 N x.1 x.2.1 x.2.2.1⟩
noncomputable def bautalaw29_PlaceWide_j6_in : SPat := ⟨[(0, .val .str), (0, .val (.int .i64)), (4, .own 0 1)], 95, [(0, ⟨9, 1, .list .str⟩)], 1⟩
noncomputable def bautalaw29_PlaceWide_j6_out : Outs bautalaw29_PlaceWide_j6_in.X := (.one (.ret) ⟨[(4, .val .bool)], 97, [], 0⟩ Bool (fun x y => (y, ())))
noncomputable def bautalaw29_PlaceWide_j6_e (N : Nat) : TE := ⟨13, bautalaw29_PlaceWide_j6_in, bautalaw29_PlaceWide_j6_out, fun x => bautalaw29_PlaceWide_j6 N x.1 x.2.1 x.2.2.1⟩
noncomputable def bautalaw29_PlaceWide_A (N : Nat) : Ann := ⟨⟨Tryd.prog, dOf [bautalaw29_short_E N, place_Excerpt_E N, bautaref29_Lines_E N, bautalaw29_lives_E N], md⟩, 0, 0, [(23, [6]), (19, [0, 6, 7]), (13, [0, 1, 6])], bautalaw29_PlaceWide_xk, LOf [bautalaw29_PlaceWide_j11_e N, bautalaw29_PlaceWide_j9_e N, bautalaw29_PlaceWide_j6_e N]⟩
theorem bautalaw29_PlaceWide_j11_ok (N : Nat) : EOK (bautalaw29_PlaceWide_A N) (bautalaw29_PlaceWide_j11_e N) ((findCut 23 (Tryd.f5.body.getD .skip)).getD .skip) :=
  join_ok (pin := bautalaw29_PlaceWide_j11_in) (outs := bautalaw29_PlaceWide_j11_out) (t := fun x => bautalaw29_PlaceWide_j11_T N x.1) rfl (fun x R k => by kernel_rfl)
theorem bautalaw29_PlaceWide_j9_ok (N : Nat) : EOK (bautalaw29_PlaceWide_A N) (bautalaw29_PlaceWide_j9_e N) ((findCut 19 (Tryd.f5.body.getD .skip)).getD .skip) :=
  join_ok (pin := bautalaw29_PlaceWide_j9_in) (outs := bautalaw29_PlaceWide_j9_out) (t := fun x => bautalaw29_PlaceWide_j9_T N x.1 x.2.1 x.2.2.1) rfl (fun x R k => by kernel_rfl)
theorem bautalaw29_PlaceWide_j6_ok (N : Nat) : EOK (bautalaw29_PlaceWide_A N) (bautalaw29_PlaceWide_j6_e N) ((findCut 13 (Tryd.f5.body.getD .skip)).getD .skip) :=
  join_ok (pin := bautalaw29_PlaceWide_j6_in) (outs := bautalaw29_PlaceWide_j6_out) (t := fun x => bautalaw29_PlaceWide_j6_T N x.1 x.2.1 x.2.2.1) rfl (fun x R k => by kernel_rfl)
theorem bautalaw29_PlaceWide_ok (N : Nat) : FEok Tryd.prog (bautalaw29_PlaceWide_E N) :=
  fn_ok (A := bautalaw29_PlaceWide_A N) (pin := [.val .str, .val (.int .i64)]) (rin := []) (pout := .val .bool) (rout := []) (Y := Bool) (out := bautalaw29_PlaceWide_o) (t := fun x => bautalaw29_PlaceWide_T N x.1 x.2.1) (dok_of ⟨bautalaw29_short_ok N, ⟨place_Excerpt_ok N, ⟨bautaref29_Lines_ok N, ⟨bautalaw29_lives_ok N, trivial⟩⟩⟩⟩) mixed Tryd.func5 (by kernel_rfl) (tok_fn (tok_of rfl (by kernel_rfl) ⟨bautalaw29_PlaceWide_j11_ok N, ⟨bautalaw29_PlaceWide_j9_ok N, ⟨bautalaw29_PlaceWide_j6_ok N, trivial⟩⟩⟩)) rfl false (fun x => by kernel_rfl)
noncomputable def place_Word_o (x : Pat.teleL [.val (.int .i64)] (MPat.tele [] Unit)) (y : ByteArray) : Pat.tele (.val .str) (MPat.tele [] Unit) := (y, ())
noncomputable def place_Word_E (N : Nat) : FE := ⟨12, [.val (.int .i64)], [], .val .str, [], ByteArray, fun x => place_Word N x.1, place_Word_o⟩
noncomputable def place_Word_A (N : Nat) : Ann := ⟨⟨Tryd.prog, dOf [place_word_E N], md⟩, 0, 0, [], fun _ _ => [], LOf []⟩
theorem place_Word_ok (N : Nat) : FEok Tryd.prog (place_Word_E N) :=
  fn_ok (A := place_Word_A N) (pin := [.val (.int .i64)]) (rin := []) (pout := .val .str) (rout := []) (Y := ByteArray) (out := place_Word_o) (t := fun x => place_Word_T N x.1) (dok_of ⟨place_word_ok N, trivial⟩) mixed Tryd.func12 (by kernel_rfl) (tok_fn (tok_of rfl (by kernel_rfl) trivial)) rfl false (fun x => by kernel_rfl)
noncomputable def bautaref04_Num_A (N : Nat) (bautaref04_Num_r : Int → Option ByteArray) : Ann := ⟨⟨Tryd.prog, dOf [bautaref04_Num_Er bautaref04_Num_r], md⟩, 0, 0, [], fun _ _ => [], LOf []⟩
theorem bautaref04_Num_step (N : Nat) (bautaref04_Num_r : Int → Option ByteArray) (bautaref04_Num_h : FEok Tryd.prog (bautaref04_Num_Er bautaref04_Num_r)) : FEok Tryd.prog (bautaref04_Num_Er (fun a0 => (bautaref04_Num_T N bautaref04_Num_r a0).run some)) :=
  fn_ok (A := bautaref04_Num_A N bautaref04_Num_r) (pin := [.val (.int .i64)]) (rin := []) (pout := .val .str) (rout := []) (Y := ByteArray) (out := bautaref04_Num_o) (t := fun x => bautaref04_Num_T N bautaref04_Num_r x.1) (dok_of ⟨bautaref04_Num_h, trivial⟩) mixed Tryd.func24 (by kernel_rfl) (tok_fn (tok_of rfl (by kernel_rfl) trivial)) rfl false (fun x => by kernel_rfl)
theorem bautaref04_Num_Rok (N : Nat) : ∀ k, FEok Tryd.prog (bautaref04_Num_Er (bautaref04_Num_R N k))
  | 0 => ⟨enters_run Tryd.func24 (by kernel_rfl), fun x y h => by cases h⟩
  | k + 1 => bautaref04_Num_step N (bautaref04_Num_R N k) (bautaref04_Num_Rok N k)
theorem bautaref04_Num_ok (N : Nat) : FEok Tryd.prog (bautaref04_Num_E N) := bautaref04_Num_Rok N N
noncomputable def bautaref29_Word_o (x : Pat.teleL [.val (.int .i64)] (MPat.tele [] Unit)) (y : ByteArray) : Pat.tele (.val .str) (MPat.tele [] Unit) := (y, ())
noncomputable def bautaref29_Word_E (N : Nat) : FE := ⟨13, [.val (.int .i64)], [], .val .str, [], ByteArray, fun x => bautaref29_Word N x.1, bautaref29_Word_o⟩
noncomputable def bautaref29_Word_A (N : Nat) : Ann := ⟨⟨Tryd.prog, dOf [bautaref04_Num_E N], md⟩, 0, 0, [], fun _ _ => [], LOf []⟩
theorem bautaref29_Word_ok (N : Nat) : FEok Tryd.prog (bautaref29_Word_E N) :=
  fn_ok (A := bautaref29_Word_A N) (pin := [.val (.int .i64)]) (rin := []) (pout := .val .str) (rout := []) (Y := ByteArray) (out := bautaref29_Word_o) (t := fun x => bautaref29_Word_T N x.1) (dok_of ⟨bautaref04_Num_ok N, trivial⟩) mixed Tryd.func13 (by kernel_rfl) (tok_fn (tok_of rfl (by kernel_rfl) trivial)) rfl false (fun x => by kernel_rfl)
noncomputable def bautaref29_Tell_o (x : Pat.teleL [.val .str, .val (.int .i64), .val (.int .i64)] (MPat.tele [] Unit)) (y : ByteArray) : Pat.tele (.val .str) (MPat.tele [] Unit) := (y, ())
noncomputable def bautaref29_Tell_E (N : Nat) : FE := ⟨15, [.val .str, .val (.int .i64), .val (.int .i64)], [], .val .str, [], ByteArray, fun x => bautaref29_Tell N x.1 x.2.1 x.2.2.1, bautaref29_Tell_o⟩
noncomputable def bautaref29_Tell_A (N : Nat) : Ann := ⟨⟨Tryd.prog, dOf [bautaref29_Of_E N, bautaref04_Num_E N, bautaref29_Word_E N, bautaref29_Excerpt_E N], md⟩, 0, 0, [], fun _ _ => [], LOf []⟩
theorem bautaref29_Tell_ok (N : Nat) : FEok Tryd.prog (bautaref29_Tell_E N) :=
  fn_ok (A := bautaref29_Tell_A N) (pin := [.val .str, .val (.int .i64), .val (.int .i64)]) (rin := []) (pout := .val .str) (rout := []) (Y := ByteArray) (out := bautaref29_Tell_o) (t := fun x => bautaref29_Tell_T N x.1 x.2.1 x.2.2.1) (dok_of ⟨bautaref29_Of_ok N, ⟨bautaref04_Num_ok N, ⟨bautaref29_Word_ok N, ⟨bautaref29_Excerpt_ok N, trivial⟩⟩⟩⟩) mixed Tryd.func15 (by kernel_rfl) (tok_fn (tok_of rfl (by kernel_rfl) trivial)) rfl false (fun x => by kernel_rfl)
noncomputable def bautalaw29_PlaceTells_o (x : Pat.teleL [.val .str, .val (.int .i64), .val (.int .i64)] (MPat.tele [] Unit)) (y : Bool) : Pat.tele (.val .bool) (MPat.tele [] Unit) := (y, ())
noncomputable def bautalaw29_PlaceTells_E (N : Nat) : FE := ⟨4, [.val .str, .val (.int .i64), .val (.int .i64)], [], .val .bool, [], Bool, fun x => bautalaw29_PlaceTells N x.1 x.2.1 x.2.2.1, bautalaw29_PlaceTells_o⟩
noncomputable def bautalaw29_PlaceTells_A (N : Nat) : Ann := ⟨⟨Tryd.prog, dOf [bautalaw29_short_E N, place_Word_E N, bautaref29_Word_E N, place_Tell_E N, bautaref29_Tell_E N, bautalaw29_lives_E N], md⟩, 0, 0, [], fun _ _ => [], LOf []⟩
theorem bautalaw29_PlaceTells_ok (N : Nat) : FEok Tryd.prog (bautalaw29_PlaceTells_E N) :=
  fn_ok (A := bautalaw29_PlaceTells_A N) (pin := [.val .str, .val (.int .i64), .val (.int .i64)]) (rin := []) (pout := .val .bool) (rout := []) (Y := Bool) (out := bautalaw29_PlaceTells_o) (t := fun x => bautalaw29_PlaceTells_T N x.1 x.2.1 x.2.2.1) (dok_of ⟨bautalaw29_short_ok N, ⟨place_Word_ok N, ⟨bautaref29_Word_ok N, ⟨place_Tell_ok N, ⟨bautaref29_Tell_ok N, ⟨bautalaw29_lives_ok N, trivial⟩⟩⟩⟩⟩⟩) mixed Tryd.func4 (by kernel_rfl) (tok_fn (tok_of rfl (by kernel_rfl) trivial)) rfl false (fun x => by kernel_rfl)
end Go.Proofs.YtklnpdnfjponpaaDoorV
