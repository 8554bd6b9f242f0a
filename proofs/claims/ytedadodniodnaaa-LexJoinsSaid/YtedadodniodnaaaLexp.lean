/- Lex: that they come to it (printed by wip/ext.py). -/
import Derived.Test.YtedadodniodnaaaLexd
import Derived.Test.YtedadodniodnaaaVLp
import Derived.Test.YtedadodniodnaaaV2
import Derived.Test.YtedadodniodnaaaChecked
namespace Go.Proofs.YtedadodniodnaaaV
open Go.RowKit
set_option linter.unusedVariables false
set_option maxRecDepth 100000
noncomputable def md : FuncId → List Bool
  | 40 => [false, true]
  | 42 => [true, false]
  | 43 => [true, false]
  | 44 => [true]
  | 57 => [true, true]
  | 62 => [true]
  | 64 => [false, true]
  | 69 => [true, false, false]
  | 84 => [false, true]
  | 85 => [true, false, false]
  | 86 => [true, false, false]
  | 87 => [true, false]
  | 88 => [true, false, false]
  | 89 => [true, false]
  | 99 => [true, false]
  | 100 => [true, false]
  | 112 => [true, true]
  | 122 => [true]
  | 123 => [true]
  | 124 => [true]
  | 125 => [true]
  | 126 => [true]
  | 130 => [true]
  | 6000011 => [false, false, true]
  | _ => []
theorem mixed : Try.prog.follows .mixedOrders = true := by kernel_rfl
noncomputable def lex_each_o : FOuts (Pat.teleL [.val .str] (MPat.tele [] Unit)) := (.one false (.fn 57 [.ptr0 0 1 0]) [(0, ⟨9, 1, .cells [.val .str]⟩)] Unit (fun x y => (x.1, ())))
noncomputable def lex_each_E (N : Nat) : FE := ⟨33, 0, [.val .str], [], lex_each_o, fun x => lex_each N⟩
noncomputable def lex_each_A (N : Nat) : Ann := { cx := ⟨Try.prog, dOf [], md⟩, fn := 33, inr := false, mm := 0, fuel := 0, tab := [], xk := fun _ _ => [], L := LOf [] }
theorem lex_each_ok (N : Nat) : FEok Try.prog (lex_each_E N) :=
  fn_ok (A := lex_each_A N) (pin := [.val .str]) (rin := []) (outs := lex_each_o) (t := fun x => lex_each_T N) (dok_of trivial) mixed Try.func33 (by kernel_rfl) (tok_fn ⟨(tok_of rfl (by kernel_rfl) trivial), lok_none (by kernel_rfl)⟩) false (fun x => by kernel_rfl)
noncomputable def lex_blank_1_o : FOuts (Pat.teleL [.val (.int .u8)] (MPat.tele [] Unit)) := (.one false (.val .bool) [] Bool (fun x y => (y, ())))
noncomputable def lex_blank_1_E (N : Nat) : FE := ⟨76, 0, [.val (.int .u8)], [], lex_blank_1_o, fun x => lex_blank_1 N x.1⟩
noncomputable def lex_blank_1_A (N : Nat) : Ann := { cx := ⟨Try.prog, dOf [], md⟩, fn := 76, inr := false, mm := 0, fuel := 0, tab := [], xk := fun _ _ => [], L := LOf [] }
theorem lex_blank_1_ok (N : Nat) : FEok Try.prog (lex_blank_1_E N) :=
  fn_ok (A := lex_blank_1_A N) (pin := [.val (.int .u8)]) (rin := []) (outs := lex_blank_1_o) (t := fun x => lex_blank_1_T N x.1) (dok_of trivial) mixed Try.func76 (by kernel_rfl) (tok_fn ⟨(tok_of rfl (by kernel_rfl) trivial), lok_none (by kernel_rfl)⟩) false (fun x => by kernel_rfl)
noncomputable def lex_run_o : FOuts (Pat.teleL [.val .str, .fn 76 []] (MPat.tele [] Unit)) := (.one false (.val (.int .i64)) [] Int (fun x y => (y, ())))
noncomputable def lex_run_E (N : Nat) : FE := ⟨40, 0, [.val .str, .fn 76 []], [], lex_run_o, fun x => lex_run N x.1⟩
noncomputable def lex_run_xk : Nat → Exit → List Nat
  | 4, .exit 0 => [5]
  | 4, .normal => [0, 1, 5]
  | _, _ => []
noncomputable def lex_run_l2_in : SPat := ⟨[(0, .val .str), (0, .fn 76 []), (3, .val (.int .i64))], 14, [], 0⟩
noncomputable def lex_run_l2_out : Outs lex_run_l2_in.X := (.one (.exit 0) ⟨[(5, .val (.int .i64))], 14, [], 0⟩ Int (fun x y => (y, ())))
noncomputable def lex_run_l2_e (N : Nat) : TE := ⟨4, lex_run_l2_in, lex_run_l2_out, fun x => lex_run_l2 N x.1 x.2.1⟩
noncomputable def lex_run_A (N : Nat) : Ann := { cx := ⟨Try.prog, dOf [lex_blank_1_E N], md⟩, fn := 40, inr := false, mm := 0, fuel := 0, tab := [(4, [0, 1, 5])], xk := lex_run_xk, L := LOf [lex_run_l2_e N] }
theorem lex_run_l2_ok (N : Nat) : EOK (lex_run_A N) (lex_run_l2_e N) ((findCut 4 (Try.f40.body.getD .skip)).getD .skip) :=
  loop_ok (pin := lex_run_l2_in) (outs := lex_run_l2_out) (V := Int) (s := fun x v => lex_run_l2_T N x.1 v) (mk := fun x v => (x.1, v, ())) (var := fun x => x.2.1) N rfl rfl (fun x => rfl) (fun x v R k => by kernel_rfl)
theorem lex_run_ok (N : Nat) : FEok Try.prog (lex_run_E N) :=
  fn_ok (A := lex_run_A N) (pin := [.val .str, .fn 76 []]) (rin := []) (outs := lex_run_o) (t := fun x => lex_run_T N x.1) (dok_of ⟨lex_blank_1_ok N, trivial⟩) mixed Try.func40 (by kernel_rfl) (tok_fn ⟨(tok_of rfl (by kernel_rfl) ⟨lex_run_l2_ok N, trivial⟩), lok_none (by kernel_rfl)⟩) false (fun x => by kernel_rfl)
noncomputable def stringslite_HasPrefix_o : FOuts (Pat.teleL [.val .str, .val .str] (MPat.tele [] Unit)) := (.one false (.val .bool) [] Bool (fun x y => (y, ())))
noncomputable def stringslite_HasPrefix_E (N : Nat) : FE := ⟨95, 0, [.val .str, .val .str], [], stringslite_HasPrefix_o, fun x => stringslite_HasPrefix N x.1 x.2.1⟩
noncomputable def stringslite_HasPrefix_A (N : Nat) : Ann := { cx := ⟨Try.prog, dOf [], md⟩, fn := 95, inr := false, mm := 0, fuel := 0, tab := [], xk := fun _ _ => [], L := LOf [] }
theorem stringslite_HasPrefix_ok (N : Nat) : FEok Try.prog (stringslite_HasPrefix_E N) :=
  fn_ok (A := stringslite_HasPrefix_A N) (pin := [.val .str, .val .str]) (rin := []) (outs := stringslite_HasPrefix_o) (t := fun x => stringslite_HasPrefix_T N x.1 x.2.1) (dok_of trivial) mixed Try.func95 (by kernel_rfl) (tok_fn ⟨(tok_of rfl (by kernel_rfl) trivial), lok_none (by kernel_rfl)⟩) false (fun x => by kernel_rfl)
noncomputable def strings_HasPrefix_o : FOuts (Pat.teleL [.val .str, .val .str] (MPat.tele [] Unit)) := (.one false (.val .bool) [] Bool (fun x y => (y, ())))
noncomputable def strings_HasPrefix_E (N : Nat) : FE := ⟨77, 0, [.val .str, .val .str], [], strings_HasPrefix_o, fun x => strings_HasPrefix N x.1 x.2.1⟩
noncomputable def strings_HasPrefix_A (N : Nat) : Ann := { cx := ⟨Try.prog, dOf [stringslite_HasPrefix_E N], md⟩, fn := 77, inr := false, mm := 0, fuel := 0, tab := [], xk := fun _ _ => [], L := LOf [] }
theorem strings_HasPrefix_ok (N : Nat) : FEok Try.prog (strings_HasPrefix_E N) :=
  fn_ok (A := strings_HasPrefix_A N) (pin := [.val .str, .val .str]) (rin := []) (outs := strings_HasPrefix_o) (t := fun x => strings_HasPrefix_T N x.1 x.2.1) (dok_of ⟨stringslite_HasPrefix_ok N, trivial⟩) mixed Try.func77 (by kernel_rfl) (tok_fn ⟨(tok_of rfl (by kernel_rfl) trivial), lok_none (by kernel_rfl)⟩) false (fun x => by kernel_rfl)
noncomputable def lex_blank_2_o : FOuts (Pat.teleL [.val (.int .u8)] (MPat.tele [] Unit)) := (.one false (.val .bool) [] Bool (fun x y => (y, ())))
noncomputable def lex_blank_2_E (N : Nat) : FE := ⟨78, 0, [.val (.int .u8)], [], lex_blank_2_o, fun x => lex_blank_2 N x.1⟩
noncomputable def lex_blank_2_A (N : Nat) : Ann := { cx := ⟨Try.prog, dOf [], md⟩, fn := 78, inr := false, mm := 0, fuel := 0, tab := [], xk := fun _ _ => [], L := LOf [] }
theorem lex_blank_2_ok (N : Nat) : FEok Try.prog (lex_blank_2_E N) :=
  fn_ok (A := lex_blank_2_A N) (pin := [.val (.int .u8)]) (rin := []) (outs := lex_blank_2_o) (t := fun x => lex_blank_2_T N x.1) (dok_of trivial) mixed Try.func78 (by kernel_rfl) (tok_fn ⟨(tok_of rfl (by kernel_rfl) trivial), lok_none (by kernel_rfl)⟩) false (fun x => by kernel_rfl)
noncomputable def lex_run_2_o : FOuts (Pat.teleL [.val .str, .fn 78 []] (MPat.tele [] Unit)) := (.one false (.val (.int .i64)) [] Int (fun x y => (y, ())))
noncomputable def lex_run_2_E (N : Nat) : FE := ⟨40, 0, [.val .str, .fn 78 []], [], lex_run_2_o, fun x => lex_run_2 N x.1⟩
noncomputable def lex_run_2_xk : Nat → Exit → List Nat
  | 4, .exit 0 => [5]
  | 4, .normal => [0, 1, 5]
  | _, _ => []
noncomputable def lex_run_2_l2_in : SPat := ⟨[(0, .val .str), (0, .fn 78 []), (3, .val (.int .i64))], 14, [], 0⟩
noncomputable def lex_run_2_l2_out : Outs lex_run_2_l2_in.X := (.one (.exit 0) ⟨[(5, .val (.int .i64))], 14, [], 0⟩ Int (fun x y => (y, ())))
noncomputable def lex_run_2_l2_e (N : Nat) : TE := ⟨4, lex_run_2_l2_in, lex_run_2_l2_out, fun x => lex_run_2_l2 N x.1 x.2.1⟩
noncomputable def lex_run_2_A (N : Nat) : Ann := { cx := ⟨Try.prog, dOf [lex_blank_2_E N], md⟩, fn := 40, inr := false, mm := 0, fuel := 0, tab := [(4, [0, 1, 5])], xk := lex_run_2_xk, L := LOf [lex_run_2_l2_e N] }
theorem lex_run_2_l2_ok (N : Nat) : EOK (lex_run_2_A N) (lex_run_2_l2_e N) ((findCut 4 (Try.f40.body.getD .skip)).getD .skip) :=
  loop_ok (pin := lex_run_2_l2_in) (outs := lex_run_2_l2_out) (V := Int) (s := fun x v => lex_run_2_l2_T N x.1 v) (mk := fun x v => (x.1, v, ())) (var := fun x => x.2.1) N rfl rfl (fun x => rfl) (fun x v R k => by kernel_rfl)
theorem lex_run_2_ok (N : Nat) : FEok Try.prog (lex_run_2_E N) :=
  fn_ok (A := lex_run_2_A N) (pin := [.val .str, .fn 78 []]) (rin := []) (outs := lex_run_2_o) (t := fun x => lex_run_2_T N x.1) (dok_of ⟨lex_blank_2_ok N, trivial⟩) mixed Try.func40 (by kernel_rfl) (tok_fn ⟨(tok_of rfl (by kernel_rfl) ⟨lex_run_2_l2_ok N, trivial⟩), lok_none (by kernel_rfl)⟩) false (fun x => by kernel_rfl)
noncomputable def lex_blank_o : FOuts (Pat.teleL [.val .str] (MPat.tele [] Unit)) := (.one false (.val (.int .i64)) [] Int (fun x y => (y, ())))
noncomputable def lex_blank_E (N : Nat) : FE := ⟨58, 0, [.val .str], [], lex_blank_o, fun x => lex_blank N x.1⟩
noncomputable def lex_blank_xk : Nat → Exit → List Nat
  | 11, .ret => [2]
  | 11, .normal => [0, 3]
  | 4, .ret => [2]
  | 4, .normal => [0, 3]
  | _, _ => []
noncomputable def lex_blank_j5_in : SPat := ⟨[(0, .val .str), (2, .val (.int .i64)), (0, .val (.int .i64))], 24, [], 0⟩
noncomputable def lex_blank_j5_out : Outs lex_blank_j5_in.X := (.or (.ret) ⟨[(2, .val (.int .i64))], 26, [], 0⟩ Unit (fun x y => (x.2.1, ())) (.one (.normal) ⟨[(0, .val .str), (2, .val (.int .i64))], 25, [], 0⟩ Int (fun x y => (x.1, y, ()))))
noncomputable def lex_blank_j5_e (N : Nat) : TE := ⟨11, lex_blank_j5_in, lex_blank_j5_out, fun x => lex_blank_j5 N x.2.1 x.2.2.1⟩
noncomputable def lex_blank_l2_in : SPat := ⟨[(0, .val .str), (2, .val (.int .i64))], 25, [], 0⟩
noncomputable def lex_blank_l2_out : Outs lex_blank_l2_in.X := (.one (.ret) ⟨[(2, .val (.int .i64))], 26, [], 0⟩ Int (fun x y => (y, ())))
noncomputable def lex_blank_l2_e (N : Nat) : TE := ⟨4, lex_blank_l2_in, lex_blank_l2_out, fun x => lex_blank_l2 N x.1 x.2.1⟩
noncomputable def lex_blank_A (N : Nat) : Ann := { cx := ⟨Try.prog, dOf [lex_run_E N, strings_HasPrefix_E N, lex_run_2_E N], md⟩, fn := 58, inr := false, mm := 0, fuel := 0, tab := [(11, [0, 3, 4]), (4, [0, 3])], xk := lex_blank_xk, L := LOf [lex_blank_j5_e N, lex_blank_l2_e N] }
theorem lex_blank_j5_ok (N : Nat) : EOK (lex_blank_A N) (lex_blank_j5_e N) ((findCut 11 (Try.f58.body.getD .skip)).getD .skip) :=
  join_ok (pin := lex_blank_j5_in) (outs := lex_blank_j5_out) (t := fun x => lex_blank_j5_T N x.2.1 x.2.2.1) rfl (fun x R k => by kernel_rfl)
theorem lex_blank_l2_ok (N : Nat) : EOK (lex_blank_A N) (lex_blank_l2_e N) ((findCut 4 (Try.f58.body.getD .skip)).getD .skip) :=
  loop_ok (pin := lex_blank_l2_in) (outs := lex_blank_l2_out) (V := Int) (s := fun x v => lex_blank_l2_T N x.1 v) (mk := fun x v => (x.1, v, ())) (var := fun x => x.2.1) N rfl rfl (fun x => rfl) (fun x v R k => by kernel_rfl)
theorem lex_blank_ok (N : Nat) : FEok Try.prog (lex_blank_E N) :=
  fn_ok (A := lex_blank_A N) (pin := [.val .str]) (rin := []) (outs := lex_blank_o) (t := fun x => lex_blank_T N x.1) (dok_of ⟨lex_run_ok N, ⟨strings_HasPrefix_ok N, ⟨lex_run_2_ok N, trivial⟩⟩⟩) mixed Try.func58 (by kernel_rfl) (tok_fn ⟨(tok_of rfl (by kernel_rfl) ⟨lex_blank_j5_ok N, ⟨lex_blank_l2_ok N, trivial⟩⟩), lok_none (by kernel_rfl)⟩) false (fun x => by kernel_rfl)
noncomputable def lex_letter_o : FOuts (Pat.teleL [.val (.int .u8)] (MPat.tele [] Unit)) := (.one false (.val .bool) [] Bool (fun x y => (y, ())))
noncomputable def lex_letter_E (N : Nat) : FE := ⟨39, 0, [.val (.int .u8)], [], lex_letter_o, fun x => lex_letter N x.1⟩
noncomputable def lex_letter_A (N : Nat) : Ann := { cx := ⟨Try.prog, dOf [], md⟩, fn := 39, inr := false, mm := 0, fuel := 0, tab := [], xk := fun _ _ => [], L := LOf [] }
theorem lex_letter_ok (N : Nat) : FEok Try.prog (lex_letter_E N) :=
  fn_ok (A := lex_letter_A N) (pin := [.val (.int .u8)]) (rin := []) (outs := lex_letter_o) (t := fun x => lex_letter_T N x.1) (dok_of trivial) mixed Try.func39 (by kernel_rfl) (tok_fn ⟨(tok_of rfl (by kernel_rfl) trivial), lok_none (by kernel_rfl)⟩) false (fun x => by kernel_rfl)
noncomputable def lex_digit_o : FOuts (Pat.teleL [.val (.int .u8)] (MPat.tele [] Unit)) := (.one false (.val .bool) [] Bool (fun x y => (y, ())))
noncomputable def lex_digit_E (N : Nat) : FE := ⟨61, 0, [.val (.int .u8)], [], lex_digit_o, fun x => lex_digit N x.1⟩
noncomputable def lex_digit_A (N : Nat) : Ann := { cx := ⟨Try.prog, dOf [], md⟩, fn := 61, inr := false, mm := 0, fuel := 0, tab := [], xk := fun _ _ => [], L := LOf [] }
theorem lex_digit_ok (N : Nat) : FEok Try.prog (lex_digit_E N) :=
  fn_ok (A := lex_digit_A N) (pin := [.val (.int .u8)]) (rin := []) (outs := lex_digit_o) (t := fun x => lex_digit_T N x.1) (dok_of trivial) mixed Try.func61 (by kernel_rfl) (tok_fn ⟨(tok_of rfl (by kernel_rfl) trivial), lok_none (by kernel_rfl)⟩) false (fun x => by kernel_rfl)
noncomputable def lex_inner_o : FOuts (Pat.teleL [.val (.int .u8)] (MPat.tele [] Unit)) := (.one false (.val .bool) [] Bool (fun x y => (y, ())))
noncomputable def lex_inner_E (N : Nat) : FE := ⟨41, 0, [.val (.int .u8)], [], lex_inner_o, fun x => lex_inner N x.1⟩
noncomputable def lex_inner_A (N : Nat) : Ann := { cx := ⟨Try.prog, dOf [lex_letter_E N, lex_digit_E N], md⟩, fn := 41, inr := false, mm := 0, fuel := 0, tab := [], xk := fun _ _ => [], L := LOf [] }
theorem lex_inner_ok (N : Nat) : FEok Try.prog (lex_inner_E N) :=
  fn_ok (A := lex_inner_A N) (pin := [.val (.int .u8)]) (rin := []) (outs := lex_inner_o) (t := fun x => lex_inner_T N x.1) (dok_of ⟨lex_letter_ok N, ⟨lex_digit_ok N, trivial⟩⟩) mixed Try.func41 (by kernel_rfl) (tok_fn ⟨(tok_of rfl (by kernel_rfl) trivial), lok_none (by kernel_rfl)⟩) false (fun x => by kernel_rfl)
noncomputable def lex_run_3_o : FOuts (Pat.teleL [.val .str, .fn 41 []] (MPat.tele [] Unit)) := (.one false (.val (.int .i64)) [] Int (fun x y => (y, ())))
noncomputable def lex_run_3_E (N : Nat) : FE := ⟨40, 0, [.val .str, .fn 41 []], [], lex_run_3_o, fun x => lex_run_3 N x.1⟩
noncomputable def lex_run_3_xk : Nat → Exit → List Nat
  | 4, .exit 0 => [5]
  | 4, .normal => [0, 1, 5]
  | _, _ => []
noncomputable def lex_run_3_l2_in : SPat := ⟨[(0, .val .str), (0, .fn 41 []), (3, .val (.int .i64))], 14, [], 0⟩
noncomputable def lex_run_3_l2_out : Outs lex_run_3_l2_in.X := (.one (.exit 0) ⟨[(5, .val (.int .i64))], 14, [], 0⟩ Int (fun x y => (y, ())))
noncomputable def lex_run_3_l2_e (N : Nat) : TE := ⟨4, lex_run_3_l2_in, lex_run_3_l2_out, fun x => lex_run_3_l2 N x.1 x.2.1⟩
noncomputable def lex_run_3_A (N : Nat) : Ann := { cx := ⟨Try.prog, dOf [lex_inner_E N], md⟩, fn := 40, inr := false, mm := 0, fuel := 0, tab := [(4, [0, 1, 5])], xk := lex_run_3_xk, L := LOf [lex_run_3_l2_e N] }
theorem lex_run_3_l2_ok (N : Nat) : EOK (lex_run_3_A N) (lex_run_3_l2_e N) ((findCut 4 (Try.f40.body.getD .skip)).getD .skip) :=
  loop_ok (pin := lex_run_3_l2_in) (outs := lex_run_3_l2_out) (V := Int) (s := fun x v => lex_run_3_l2_T N x.1 v) (mk := fun x v => (x.1, v, ())) (var := fun x => x.2.1) N rfl rfl (fun x => rfl) (fun x v R k => by kernel_rfl)
theorem lex_run_3_ok (N : Nat) : FEok Try.prog (lex_run_3_E N) :=
  fn_ok (A := lex_run_3_A N) (pin := [.val .str, .fn 41 []]) (rin := []) (outs := lex_run_3_o) (t := fun x => lex_run_3_T N x.1) (dok_of ⟨lex_inner_ok N, trivial⟩) mixed Try.func40 (by kernel_rfl) (tok_fn ⟨(tok_of rfl (by kernel_rfl) ⟨lex_run_3_l2_ok N, trivial⟩), lok_none (by kernel_rfl)⟩) false (fun x => by kernel_rfl)
noncomputable def strings_Contains_o : FOuts (Pat.teleL [.val .str, .val .str] (MPat.tele [] Unit)) := (.one false (.val .bool) [] Bool (fun x y => (y, ())))
noncomputable def strings_Contains_E (N : Nat) : FE := ⟨60, 0, [.val .str, .val .str], [], strings_Contains_o, fun x => strings_Contains N x.1 x.2.1⟩
theorem strings_Contains_ok (N : Nat) : FEok Try.prog (strings_Contains_E N) := ⟨fun _ => enters_run Try.func60 (by kernel_rfl), fun x y h => lib_ok (by kernel_rfl) rfl rfl fun W gw => strings_Contains_c (N := N) gw h⟩
noncomputable def lex_isWord_o : FOuts (Pat.teleL [.val .str] (MPat.tele [] Unit)) := (.one false (.val .bool) [] Bool (fun x y => (y, ())))
noncomputable def lex_isWord_E (N : Nat) : FE := ⟨38, 0, [.val .str], [], lex_isWord_o, fun x => lex_isWord N x.1⟩
noncomputable def lex_isWord_A (N : Nat) : Ann := { cx := ⟨Try.prog, dOf [strings_Contains_E N], md⟩, fn := 38, inr := false, mm := 0, fuel := 0, tab := [], xk := fun _ _ => [], L := LOf [] }
theorem lex_isWord_ok (N : Nat) : FEok Try.prog (lex_isWord_E N) :=
  fn_ok (A := lex_isWord_A N) (pin := [.val .str]) (rin := []) (outs := lex_isWord_o) (t := fun x => lex_isWord_T N x.1) (dok_of ⟨strings_Contains_ok N, trivial⟩) mixed Try.func38 (by kernel_rfl) (tok_fn ⟨(tok_of rfl (by kernel_rfl) trivial), lok_none (by kernel_rfl)⟩) false (fun x => by kernel_rfl)
noncomputable def lex_next_1_o : FOuts (Pat.teleL [.val (.int .u8)] (MPat.tele [] Unit)) := (.one false (.val .bool) [] Bool (fun x y => (y, ())))
noncomputable def lex_next_1_E (N : Nat) : FE := ⟨79, 0, [.val (.int .u8)], [], lex_next_1_o, fun x => lex_next_1 N x.1⟩
noncomputable def lex_next_1_A (N : Nat) : Ann := { cx := ⟨Try.prog, dOf [lex_letter_E N, lex_digit_E N], md⟩, fn := 79, inr := false, mm := 0, fuel := 0, tab := [], xk := fun _ _ => [], L := LOf [] }
theorem lex_next_1_ok (N : Nat) : FEok Try.prog (lex_next_1_E N) :=
  fn_ok (A := lex_next_1_A N) (pin := [.val (.int .u8)]) (rin := []) (outs := lex_next_1_o) (t := fun x => lex_next_1_T N x.1) (dok_of ⟨lex_letter_ok N, ⟨lex_digit_ok N, trivial⟩⟩) mixed Try.func79 (by kernel_rfl) (tok_fn ⟨(tok_of rfl (by kernel_rfl) trivial), lok_none (by kernel_rfl)⟩) false (fun x => by kernel_rfl)
noncomputable def lex_run_4_o : FOuts (Pat.teleL [.val .str, .fn 79 []] (MPat.tele [] Unit)) := (.one false (.val (.int .i64)) [] Int (fun x y => (y, ())))
noncomputable def lex_run_4_E (N : Nat) : FE := ⟨40, 0, [.val .str, .fn 79 []], [], lex_run_4_o, fun x => lex_run_4 N x.1⟩
noncomputable def lex_run_4_xk : Nat → Exit → List Nat
  | 4, .exit 0 => [5]
  | 4, .normal => [0, 1, 5]
  | _, _ => []
noncomputable def lex_run_4_l2_in : SPat := ⟨[(0, .val .str), (0, .fn 79 []), (3, .val (.int .i64))], 14, [], 0⟩
noncomputable def lex_run_4_l2_out : Outs lex_run_4_l2_in.X := (.one (.exit 0) ⟨[(5, .val (.int .i64))], 14, [], 0⟩ Int (fun x y => (y, ())))
noncomputable def lex_run_4_l2_e (N : Nat) : TE := ⟨4, lex_run_4_l2_in, lex_run_4_l2_out, fun x => lex_run_4_l2 N x.1 x.2.1⟩
noncomputable def lex_run_4_A (N : Nat) : Ann := { cx := ⟨Try.prog, dOf [lex_next_1_E N], md⟩, fn := 40, inr := false, mm := 0, fuel := 0, tab := [(4, [0, 1, 5])], xk := lex_run_4_xk, L := LOf [lex_run_4_l2_e N] }
theorem lex_run_4_l2_ok (N : Nat) : EOK (lex_run_4_A N) (lex_run_4_l2_e N) ((findCut 4 (Try.f40.body.getD .skip)).getD .skip) :=
  loop_ok (pin := lex_run_4_l2_in) (outs := lex_run_4_l2_out) (V := Int) (s := fun x v => lex_run_4_l2_T N x.1 v) (mk := fun x v => (x.1, v, ())) (var := fun x => x.2.1) N rfl rfl (fun x => rfl) (fun x v R k => by kernel_rfl)
theorem lex_run_4_ok (N : Nat) : FEok Try.prog (lex_run_4_E N) :=
  fn_ok (A := lex_run_4_A N) (pin := [.val .str, .fn 79 []]) (rin := []) (outs := lex_run_4_o) (t := fun x => lex_run_4_T N x.1) (dok_of ⟨lex_next_1_ok N, trivial⟩) mixed Try.func40 (by kernel_rfl) (tok_fn ⟨(tok_of rfl (by kernel_rfl) ⟨lex_run_4_l2_ok N, trivial⟩), lok_none (by kernel_rfl)⟩) false (fun x => by kernel_rfl)
noncomputable def strings_IndexByte_o : FOuts (Pat.teleL [.val .str, .val (.int .u8)] (MPat.tele [] Unit)) := (.one false (.val (.int .i64)) [] Int (fun x y => (y, ())))
noncomputable def strings_IndexByte_E (N : Nat) : FE := ⟨80, 0, [.val .str, .val (.int .u8)], [], strings_IndexByte_o, fun x => strings_IndexByte N x.1 x.2.1⟩
theorem strings_IndexByte_ok (N : Nat) : FEok Try.prog (strings_IndexByte_E N) := ⟨fun _ => enters_run Try.func80 (by kernel_rfl), fun x y h => lib_ok (by kernel_rfl) rfl rfl fun W gw => strings_IndexByte_c (N := N) gw h⟩
noncomputable def lex_next_o : FOuts (Pat.teleL [.val .str] (MPat.tele [] Unit)) := (.one false (.tup [.val (.int .i64), .val (.int .i64)]) [] (Int × Int) (fun x y => (y.1, y.2, ())))
noncomputable def lex_next_E (N : Nat) : FE := ⟨59, 0, [.val .str], [], lex_next_o, fun x => lex_next N x.1⟩
noncomputable def lex_next_xk : Nat → Exit → List Nat
  | 24, .ret => [2, 3]
  | 24, .exit 1 => [0]
  | 24, .normal => [0, 28, 29]
  | _, _ => []
noncomputable def lex_next_l12_in : SPat := ⟨[(0, .val .str), (27, .agg [.val .str, .val .str, .val .str, .val .str]), (0, .val (.int .i64))], 12, [], 0⟩
noncomputable def lex_next_l12_out : Outs lex_next_l12_in.X := (.or (.ret) ⟨[(2, .val (.int .i64)), (0, .val (.int .i64))], 38, [], 0⟩ Int (fun x y => (4, y, ())) (.one (.exit 1) ⟨[(0, .val .str)], 41, [], 0⟩ Unit (fun x y => (x.1, ()))))
noncomputable def lex_next_l12_e (N : Nat) : TE := ⟨24, lex_next_l12_in, lex_next_l12_out, fun x => lex_next_l12 N x.1 x.2.1 x.2.2.1 x.2.2.2.1 x.2.2.2.2.1 x.2.2.2.2.2.1⟩
noncomputable def lex_next_A (N : Nat) : Ann := { cx := ⟨Try.prog, dOf [lex_letter_E N, lex_run_3_E N, lex_isWord_E N, lex_digit_E N, lex_run_4_E N, strings_HasPrefix_E N, strings_IndexByte_E N], md⟩, fn := 59, inr := false, mm := 0, fuel := 0, tab := [(24, [0, 28, 29])], xk := lex_next_xk, L := LOf [lex_next_l12_e N] }
theorem lex_next_l12_ok (N : Nat) : EOK (lex_next_A N) (lex_next_l12_e N) ((findCut 24 (Try.f59.body.getD .skip)).getD .skip) :=
  loop_ok (pin := lex_next_l12_in) (outs := lex_next_l12_out) (V := Int) (s := fun x v => lex_next_l12_T N x.1 x.2.1 x.2.2.1 x.2.2.2.1 x.2.2.2.2.1 v) (mk := fun x v => (x.1, x.2.1, x.2.2.1, x.2.2.2.1, x.2.2.2.2.1, v, ())) (var := fun x => x.2.2.2.2.2.1) N rfl rfl (fun x => rfl) (fun x v R k => by kernel_rfl)
theorem lex_next_ok (N : Nat) : FEok Try.prog (lex_next_E N) :=
  fn_ok (A := lex_next_A N) (pin := [.val .str]) (rin := []) (outs := lex_next_o) (t := fun x => lex_next_T N x.1) (dok_of ⟨lex_letter_ok N, ⟨lex_run_3_ok N, ⟨lex_isWord_ok N, ⟨lex_digit_ok N, ⟨lex_run_4_ok N, ⟨strings_HasPrefix_ok N, ⟨strings_IndexByte_ok N, trivial⟩⟩⟩⟩⟩⟩⟩) mixed Try.func59 (by kernel_rfl) (tok_fn ⟨(tok_of rfl (by kernel_rfl) ⟨lex_next_l12_ok N, trivial⟩), lok_none (by kernel_rfl)⟩) false (fun x => by kernel_rfl)
noncomputable def lex_Words_round5_o : FOuts (Pat.teleL [.agg [.val (.int .i64), .val .str, .val (.int .i64)], .val (.int .i64), .oref .yield 0] (MPat.tele [(0, ⟨0, 1, .loopc 6000011 0 [.dead, .dead, .ptr0 1 1 0, .ptr0 2 1 0, .ptr0 3 1 0, .ptr0 4 1 0, .dead, .dead, .dead, .dead, .dead, .dead, .dead, .dead, .dead, .dead, .dead, .dead, .dead, .dead, .dead, .dead, .dead, .dead, .dead, .dead, .dead, .dead, .dead, .dead, .dead, .dead]⟩), (1, ⟨22, 1, .cells [.own 5 3]⟩), (2, ⟨3, 1, .cells [.val (.int .i64)]⟩), (3, ⟨23, 1, .cells [.val (.int .i64)]⟩), (4, ⟨22, 1, .cells [.own 6 3]⟩), (5, ⟨30, 3, .list (.prod (.int .i64) (.prod .str (.int .i64)))⟩), (6, ⟨30, 3, .list (.prod (.int .i64) (.prod .str (.int .i64)))⟩)] Unit)) := (.or false (.val .bool) [(0, ⟨0, 1, .loopc 6000011 2 [.dead, .dead, .ptr0 1 1 0, .ptr0 2 1 0, .ptr0 3 1 0, .ptr0 4 1 0, .dead, .dead, .dead, .dead, .dead, .dead, .dead, .dead, .dead, .dead, .dead, .dead, .dead, .dead, .dead, .dead, .dead, .dead, .dead, .dead, .dead, .dead, .dead, .dead, .dead, .dead]⟩), (1, ⟨22, 1, .cells [.own 5 3]⟩), (2, ⟨3, 1, .cells [.val (.int .i64)]⟩), (3, ⟨23, 1, .cells [.val (.int .i64)]⟩), (4, ⟨22, 1, .cells [.own 6 3]⟩), (5, ⟨30, 3, .list (.prod (.int .i64) (.prod .str (.int .i64)))⟩), (6, ⟨30, 3, .list (.prod (.int .i64) (.prod .str (.int .i64)))⟩)] Int (fun x y => (false, x.2.2.1, y, [], x.2.2.2.2.2.2.2.1, ())) (.one false (.val .bool) [(0, ⟨0, 1, .loopc 6000011 0 [.dead, .dead, .ptr0 1 1 0, .ptr0 2 1 0, .ptr0 3 1 0, .ptr0 4 1 0, .dead, .dead, .dead, .dead, .dead, .dead, .dead, .dead, .dead, .dead, .dead, .dead, .dead, .dead, .dead, .dead, .dead, .dead, .dead, .dead, .dead, .dead, .dead, .dead, .dead, .dead]⟩), (1, ⟨22, 1, .cells [.own 5 3]⟩), (2, ⟨3, 1, .cells [.val (.int .i64)]⟩), (3, ⟨23, 1, .cells [.val (.int .i64)]⟩), (4, ⟨22, 1, .cells [.own 6 3]⟩), (5, ⟨30, 3, .list (.prod (.int .i64) (.prod .str (.int .i64)))⟩), (6, ⟨30, 3, .list (.prod (.int .i64) (.prod .str (.int .i64)))⟩)] (List (Int × (ByteArray × Int))) (fun x y => (true, x.2.2.2.2.1, x.2.2.2.2.2.1, x.2.2.2.2.2.2.1, y, ()))))
noncomputable def lex_Words_round5_E (N : Nat) : FE := ⟨6000011, 5, [.agg [.val (.int .i64), .val .str, .val (.int .i64)], .val (.int .i64), .oref .yield 0], [(0, ⟨0, 1, .loopc 6000011 0 [.dead, .dead, .ptr0 1 1 0, .ptr0 2 1 0, .ptr0 3 1 0, .ptr0 4 1 0, .dead, .dead, .dead, .dead, .dead, .dead, .dead, .dead, .dead, .dead, .dead, .dead, .dead, .dead, .dead, .dead, .dead, .dead, .dead, .dead, .dead, .dead, .dead, .dead, .dead, .dead]⟩), (1, ⟨22, 1, .cells [.own 5 3]⟩), (2, ⟨3, 1, .cells [.val (.int .i64)]⟩), (3, ⟨23, 1, .cells [.val (.int .i64)]⟩), (4, ⟨22, 1, .cells [.own 6 3]⟩), (5, ⟨30, 3, .list (.prod (.int .i64) (.prod .str (.int .i64)))⟩), (6, ⟨30, 3, .list (.prod (.int .i64) (.prod .str (.int .i64)))⟩)], lex_Words_round5_o, fun x => lex_Words_round5 N x.1 x.2.1 x.2.2.1 x.2.2.2.1 x.2.2.2.2.2.2.2.1⟩
noncomputable def lex_Words_round5_xk : Nat → Exit → List Nat
  | 19, .ret => []
  | 19, .normal => []
  | _, _ => []
noncomputable def lex_Words_round5_j9_in : SPat := ⟨[(2, .ptr0 1 1 0), (0, .ptr0 2 1 0), (0, .ptr0 3 1 0), (0, .ptr0 4 1 0), (0, .ptr0 5 3 0), (0, .val (.int .i64))], 24, [(0, ⟨0, 1, .loopc 6000011 1 [.dead, .dead, .ptr0 1 1 0, .ptr0 2 1 0, .ptr0 3 1 0, .ptr0 4 1 0, .dead, .dead, .dead, .dead, .dead, .dead, .dead, .dead, .dead, .dead, .dead, .dead, .dead, .dead, .dead, .dead, .dead, .dead, .dead, .dead, .dead, .dead, .dead, .dead, .dead, .dead]⟩), (1, ⟨22, 1, .cells [.own 6 3]⟩), (2, ⟨3, 1, .cells [.val (.int .i64)]⟩), (3, ⟨23, 1, .cells [.val (.int .i64)]⟩), (4, ⟨22, 1, .cells [.own 7 3]⟩), (5, ⟨30, 3, .cells [.val (.int .i64), .val .str, .val (.int .i64)]⟩), (6, ⟨30, 3, .list (.prod (.int .i64) (.prod .str (.int .i64)))⟩), (7, ⟨30, 3, .list (.prod (.int .i64) (.prod .str (.int .i64)))⟩)], 8⟩
noncomputable def lex_Words_round5_j9_out : Outs lex_Words_round5_j9_in.X := (.or (.ret) ⟨[], 32, [(0, ⟨0, 1, .loopc 6000011 1 [.dead, .dead, .ptr0 1 1 0, .ptr0 2 1 0, .ptr0 3 1 0, .ptr0 4 1 0, .dead, .dead, .dead, .dead, .dead, .dead, .dead, .dead, .dead, .dead, .dead, .dead, .dead, .dead, .dead, .dead, .dead, .dead, .dead, .dead, .dead, .dead, .dead, .dead, .dead, .dead]⟩), (1, ⟨22, 1, .cells [.own 5 3]⟩), (2, ⟨3, 1, .cells [.val (.int .i64)]⟩), (3, ⟨23, 1, .cells [.val (.int .i64)]⟩), (4, ⟨22, 1, .cells [.own 6 3]⟩), (5, ⟨30, 3, .list (.prod (.int .i64) (.prod .str (.int .i64)))⟩), (6, ⟨30, 3, .list (.prod (.int .i64) (.prod .str (.int .i64)))⟩)], 7⟩ Unit (fun x y => (x.2.2.2.2.2.1, x.1, [], x.2.2.2.2.2.2.2.1, ())) (.one (.normal) ⟨[], 32, [(0, ⟨0, 1, .loopc 6000011 1 [.dead, .dead, .ptr0 1 1 0, .ptr0 2 1 0, .ptr0 3 1 0, .ptr0 4 1 0, .dead, .dead, .dead, .dead, .dead, .dead, .dead, .dead, .dead, .dead, .dead, .dead, .dead, .dead, .dead, .dead, .dead, .dead, .dead, .dead, .dead, .dead, .dead, .dead, .dead, .dead]⟩), (1, ⟨22, 1, .cells [.own 5 3]⟩), (2, ⟨3, 1, .cells [.val (.int .i64)]⟩), (3, ⟨23, 1, .cells [.val (.int .i64)]⟩), (4, ⟨22, 1, .cells [.own 6 3]⟩), (5, ⟨30, 3, .list (.prod (.int .i64) (.prod .str (.int .i64)))⟩), (6, ⟨30, 3, .list (.prod (.int .i64) (.prod .str (.int .i64)))⟩)], 7⟩ (List (Int × (ByteArray × Int))) (fun x y => (x.2.1, x.2.2.1, x.2.2.2.2.2.2.1, y, ()))))
noncomputable def lex_Words_round5_j9_e (N : Nat) : TE := ⟨19, lex_Words_round5_j9_in, lex_Words_round5_j9_out, fun x => lex_Words_round5_j9 N x.1 x.2.2.2.1 x.2.2.2.2.1 x.2.2.2.2.2.1 x.2.2.2.2.2.2.2.1⟩
noncomputable def lex_Words_round5_A (N : Nat) : Ann := { cx := ⟨Try.prog, dOf [], md⟩, fn := 6000011, inr := true, mm := 5, fuel := 0, tab := [(19, [2, 3, 4, 5, 6, 7])], xk := lex_Words_round5_xk, L := LOf [lex_Words_round5_j9_e N] }
noncomputable def lex_Words_round5_c : LCode := (findLoop 5 (Try.f11.body.getD .skip)).getD (#[], .skip, .skip)
theorem lex_Words_round5_j9_ok (N : Nat) : EOK (lex_Words_round5_A N) (lex_Words_round5_j9_e N) ((findCut 19 lex_Words_round5_c.2.2).getD .skip) :=
  join_ok (pin := lex_Words_round5_j9_in) (outs := lex_Words_round5_j9_out) (t := fun x => lex_Words_round5_j9_T N x.1 x.2.2.2.1 x.2.2.2.2.1 x.2.2.2.2.2.1 x.2.2.2.2.2.2.2.1) rfl (fun x R k => by kernel_rfl)
theorem lex_Words_round5_ok (N : Nat) : FEok Try.prog (lex_Words_round5_E N) :=
  round_ok (A := lex_Words_round5_A N) (pin := [.agg [.val (.int .i64), .val .str, .val (.int .i64)], .val (.int .i64), .oref .yield 0]) (rin := [(0, ⟨0, 1, .loopc 6000011 0 [.dead, .dead, .ptr0 1 1 0, .ptr0 2 1 0, .ptr0 3 1 0, .ptr0 4 1 0, .dead, .dead, .dead, .dead, .dead, .dead, .dead, .dead, .dead, .dead, .dead, .dead, .dead, .dead, .dead, .dead, .dead, .dead, .dead, .dead, .dead, .dead, .dead, .dead, .dead, .dead]⟩), (1, ⟨22, 1, .cells [.own 5 3]⟩), (2, ⟨3, 1, .cells [.val (.int .i64)]⟩), (3, ⟨23, 1, .cells [.val (.int .i64)]⟩), (4, ⟨22, 1, .cells [.own 6 3]⟩), (5, ⟨30, 3, .list (.prod (.int .i64) (.prod .str (.int .i64)))⟩), (6, ⟨30, 3, .list (.prod (.int .i64) (.prod .str (.int .i64)))⟩)]) (outs := lex_Words_round5_o) (t := fun x => lex_Words_round5_T N x.1 x.2.1 x.2.2.1 x.2.2.2.1 x.2.2.2.2.2.2.2.1) (ps := lex_Words_round5_c.1) (assign := lex_Words_round5_c.2.1) (body := lex_Words_round5_c.2.2) (dok_of trivial) mixed (by kernel_rfl) (by kernel_rfl) (by kernel_rfl) (tok_of rfl (by kernel_rfl) ⟨lex_Words_round5_j9_ok N, trivial⟩) (by kernel_rfl) (fun x => by kernel_rfl)
noncomputable def lex_each_1_o : FOuts (Pat.teleL [.oref .yield 0, .ptr0 1 1 0] (MPat.tele [(0, ⟨0, 1, .loopc 6000011 0 [.dead, .dead, .ptr0 2 1 0, .ptr0 3 1 0, .ptr0 4 1 0, .ptr0 5 1 0, .dead, .dead, .dead, .dead, .dead, .dead, .dead, .dead, .dead, .dead, .dead, .dead, .dead, .dead, .dead, .dead, .dead, .dead, .dead, .dead, .dead, .dead, .dead, .dead, .dead, .dead]⟩), (1, ⟨9, 1, .cells [.val .str]⟩), (2, ⟨22, 1, .cells [.own 6 3]⟩), (3, ⟨3, 1, .cells [.val (.int .i64)]⟩), (4, ⟨23, 1, .cells [.val (.int .i64)]⟩), (5, ⟨22, 1, .cells [.own 7 3]⟩), (6, ⟨30, 3, .list (.prod (.int .i64) (.prod .str (.int .i64)))⟩), (7, ⟨30, 3, .list (.prod (.int .i64) (.prod .str (.int .i64)))⟩)] Unit)) := (.or false (.tup []) [(0, ⟨0, 1, .loopc 6000011 2 [.dead, .dead, .ptr0 2 1 0, .ptr0 3 1 0, .ptr0 4 1 0, .ptr0 5 1 0, .dead, .dead, .dead, .dead, .dead, .dead, .dead, .dead, .dead, .dead, .dead, .dead, .dead, .dead, .dead, .dead, .dead, .dead, .dead, .dead, .dead, .dead, .dead, .dead, .dead, .dead]⟩), (1, ⟨9, 1, .cells [.val .str]⟩), (2, ⟨22, 1, .cells [.own 6 3]⟩), (3, ⟨3, 1, .cells [.val (.int .i64)]⟩), (4, ⟨23, 1, .cells [.val (.int .i64)]⟩), (5, ⟨22, 1, .cells [.own 7 3]⟩), (6, ⟨30, 3, .list (.prod (.int .i64) (.prod .str (.int .i64)))⟩), (7, ⟨30, 3, .list (.prod (.int .i64) (.prod .str (.int .i64)))⟩)] (Int × Int × (List (Int × (ByteArray × Int)))) (fun x y => (x.1, y.1, y.2.1, [], y.2.2, ())) (.one false (.tup []) [(0, ⟨0, 1, .loopc 6000011 0 [.dead, .dead, .ptr0 2 1 0, .ptr0 3 1 0, .ptr0 4 1 0, .ptr0 5 1 0, .dead, .dead, .dead, .dead, .dead, .dead, .dead, .dead, .dead, .dead, .dead, .dead, .dead, .dead, .dead, .dead, .dead, .dead, .dead, .dead, .dead, .dead, .dead, .dead, .dead, .dead]⟩), (1, ⟨9, 1, .cells [.val .str]⟩), (2, ⟨22, 1, .cells [.own 6 3]⟩), (3, ⟨3, 1, .cells [.val (.int .i64)]⟩), (4, ⟨23, 1, .cells [.val (.int .i64)]⟩), (5, ⟨22, 1, .cells [.own 7 3]⟩), (6, ⟨30, 3, .list (.prod (.int .i64) (.prod .str (.int .i64)))⟩), (7, ⟨30, 3, .list (.prod (.int .i64) (.prod .str (.int .i64)))⟩)] (List (Int × (ByteArray × Int))) (fun x y => (x.1, x.2.1, x.2.2.1, x.2.2.2.1, y, ()))))
noncomputable def lex_each_1_E (N : Nat) : FE := ⟨57, 6, [.oref .yield 0, .ptr0 1 1 0], [(0, ⟨0, 1, .loopc 6000011 0 [.dead, .dead, .ptr0 2 1 0, .ptr0 3 1 0, .ptr0 4 1 0, .ptr0 5 1 0, .dead, .dead, .dead, .dead, .dead, .dead, .dead, .dead, .dead, .dead, .dead, .dead, .dead, .dead, .dead, .dead, .dead, .dead, .dead, .dead, .dead, .dead, .dead, .dead, .dead, .dead]⟩), (1, ⟨9, 1, .cells [.val .str]⟩), (2, ⟨22, 1, .cells [.own 6 3]⟩), (3, ⟨3, 1, .cells [.val (.int .i64)]⟩), (4, ⟨23, 1, .cells [.val (.int .i64)]⟩), (5, ⟨22, 1, .cells [.own 7 3]⟩), (6, ⟨30, 3, .list (.prod (.int .i64) (.prod .str (.int .i64)))⟩), (7, ⟨30, 3, .list (.prod (.int .i64) (.prod .str (.int .i64)))⟩)], lex_each_1_o, fun x => lex_each_1 N x.1 x.2.2.2.2.1⟩
noncomputable def lex_each_1_xk : Nat → Exit → List Nat
  | 2, .ret => []
  | 2, .exit 0 => [0, 1]
  | 2, .normal => [0, 1, 3]
  | _, _ => []
noncomputable def lex_each_1_l1_in : SPat := ⟨[(0, .oref .yield 0), (0, .ptr0 1 1 0), (1, .val (.int .i64))], 47, [(0, ⟨0, 1, .loopc 6000011 0 [.dead, .dead, .ptr0 2 1 0, .ptr0 3 1 0, .ptr0 4 1 0, .ptr0 5 1 0, .dead, .dead, .dead, .dead, .dead, .dead, .dead, .dead, .dead, .dead, .dead, .dead, .dead, .dead, .dead, .dead, .dead, .dead, .dead, .dead, .dead, .dead, .dead, .dead, .dead, .dead]⟩), (1, ⟨9, 1, .cells [.val .str]⟩), (2, ⟨22, 1, .cells [.own 6 3]⟩), (3, ⟨3, 1, .cells [.val (.int .i64)]⟩), (4, ⟨23, 1, .cells [.val (.int .i64)]⟩), (5, ⟨22, 1, .cells [.own 7 3]⟩), (6, ⟨30, 3, .list (.prod (.int .i64) (.prod .str (.int .i64)))⟩), (7, ⟨30, 3, .list (.prod (.int .i64) (.prod .str (.int .i64)))⟩)], 8⟩
noncomputable def lex_each_1_l1_out : Outs lex_each_1_l1_in.X := (.or (.ret) ⟨[], 51, [(0, ⟨0, 1, .loopc 6000011 2 [.dead, .dead, .ptr0 2 1 0, .ptr0 3 1 0, .ptr0 4 1 0, .ptr0 5 1 0, .dead, .dead, .dead, .dead, .dead, .dead, .dead, .dead, .dead, .dead, .dead, .dead, .dead, .dead, .dead, .dead, .dead, .dead, .dead, .dead, .dead, .dead, .dead, .dead, .dead, .dead]⟩), (1, ⟨9, 1, .cells [.val .str]⟩), (2, ⟨22, 1, .cells [.own 6 3]⟩), (3, ⟨3, 1, .cells [.val (.int .i64)]⟩), (4, ⟨23, 1, .cells [.val (.int .i64)]⟩), (5, ⟨22, 1, .cells [.own 7 3]⟩), (6, ⟨30, 3, .list (.prod (.int .i64) (.prod .str (.int .i64)))⟩), (7, ⟨30, 3, .list (.prod (.int .i64) (.prod .str (.int .i64)))⟩)], 8⟩ (Int × Int × (List (Int × (ByteArray × Int)))) (fun x y => (x.2.1, y.1, y.2.1, [], y.2.2, ())) (.or (.ret) ⟨[], 51, [(0, ⟨0, 1, .loopc 6000011 0 [.dead, .dead, .ptr0 2 1 0, .ptr0 3 1 0, .ptr0 4 1 0, .ptr0 5 1 0, .dead, .dead, .dead, .dead, .dead, .dead, .dead, .dead, .dead, .dead, .dead, .dead, .dead, .dead, .dead, .dead, .dead, .dead, .dead, .dead, .dead, .dead, .dead, .dead, .dead, .dead]⟩), (1, ⟨9, 1, .cells [.val .str]⟩), (2, ⟨22, 1, .cells [.own 6 3]⟩), (3, ⟨3, 1, .cells [.val (.int .i64)]⟩), (4, ⟨23, 1, .cells [.val (.int .i64)]⟩), (5, ⟨22, 1, .cells [.own 7 3]⟩), (6, ⟨30, 3, .list (.prod (.int .i64) (.prod .str (.int .i64)))⟩), (7, ⟨30, 3, .list (.prod (.int .i64) (.prod .str (.int .i64)))⟩)], 8⟩ (List (Int × (ByteArray × Int))) (fun x y => (x.2.1, x.2.2.1, x.2.2.2.1, x.2.2.2.2.1, y, ())) (.one (.exit 0) ⟨[(0, .oref .yield 0), (0, .ptr0 1 1 0)], 49, [(0, ⟨0, 1, .loopc 6000011 0 [.dead, .dead, .ptr0 2 1 0, .ptr0 3 1 0, .ptr0 4 1 0, .ptr0 5 1 0, .dead, .dead, .dead, .dead, .dead, .dead, .dead, .dead, .dead, .dead, .dead, .dead, .dead, .dead, .dead, .dead, .dead, .dead, .dead, .dead, .dead, .dead, .dead, .dead, .dead, .dead]⟩), (1, ⟨9, 1, .cells [.val .str]⟩), (2, ⟨22, 1, .cells [.own 6 3]⟩), (3, ⟨3, 1, .cells [.val (.int .i64)]⟩), (4, ⟨23, 1, .cells [.val (.int .i64)]⟩), (5, ⟨22, 1, .cells [.own 7 3]⟩), (6, ⟨30, 3, .list (.prod (.int .i64) (.prod .str (.int .i64)))⟩), (7, ⟨30, 3, .list (.prod (.int .i64) (.prod .str (.int .i64)))⟩)], 8⟩ (List (Int × (ByteArray × Int))) (fun x y => (x.2.1, x.2.2.1, x.2.2.2.1, x.2.2.2.2.1, y, ())))))
noncomputable def lex_each_1_l1_e (N : Nat) : TE := ⟨2, lex_each_1_l1_in, lex_each_1_l1_out, fun x => lex_each_1_l1 N x.2.1 (x.1, x.2.2.2.2.2.1)⟩
noncomputable def lex_each_1_A (N : Nat) : Ann := { cx := ⟨Try.prog, dOf [lex_blank_E N, lex_next_E N, lex_Words_round5_E N], md⟩, fn := 57, inr := false, mm := 6, fuel := 0, tab := [(2, [0, 1, 3])], xk := lex_each_1_xk, L := LOf [lex_each_1_l1_e N] }
theorem lex_each_1_l1_ok (N : Nat) : EOK (lex_each_1_A N) (lex_each_1_l1_e N) ((findCut 2 (Try.f57.body.getD .skip)).getD .skip) :=
  loop_ok (pin := lex_each_1_l1_in) (outs := lex_each_1_l1_out) (V := (Int × (List (Int × (ByteArray × Int))))) (s := fun x v => lex_each_1_l1_T N x.2.1 v.1 v.2) (mk := fun x v => (v.1, x.2.1, x.2.2.1, x.2.2.2.1, x.2.2.2.2.1, v.2, ())) (var := fun x => (x.1, x.2.2.2.2.2.1)) N rfl rfl (fun x => rfl) (fun x v R k => by kernel_rfl)
theorem lex_each_1_ok (N : Nat) : FEok Try.prog (lex_each_1_E N) :=
  fn_ok (A := lex_each_1_A N) (pin := [.oref .yield 0, .ptr0 1 1 0]) (rin := [(0, ⟨0, 1, .loopc 6000011 0 [.dead, .dead, .ptr0 2 1 0, .ptr0 3 1 0, .ptr0 4 1 0, .ptr0 5 1 0, .dead, .dead, .dead, .dead, .dead, .dead, .dead, .dead, .dead, .dead, .dead, .dead, .dead, .dead, .dead, .dead, .dead, .dead, .dead, .dead, .dead, .dead, .dead, .dead, .dead, .dead]⟩), (1, ⟨9, 1, .cells [.val .str]⟩), (2, ⟨22, 1, .cells [.own 6 3]⟩), (3, ⟨3, 1, .cells [.val (.int .i64)]⟩), (4, ⟨23, 1, .cells [.val (.int .i64)]⟩), (5, ⟨22, 1, .cells [.own 7 3]⟩), (6, ⟨30, 3, .list (.prod (.int .i64) (.prod .str (.int .i64)))⟩), (7, ⟨30, 3, .list (.prod (.int .i64) (.prod .str (.int .i64)))⟩)]) (outs := lex_each_1_o) (t := fun x => lex_each_1_T N x.1 x.2.2.2.2.1) (dok_of ⟨lex_blank_ok N, ⟨lex_next_ok N, ⟨lex_Words_round5_ok N, trivial⟩⟩⟩) mixed Try.func57 (by kernel_rfl) (tok_fn ⟨(tok_of rfl (by kernel_rfl) ⟨lex_each_1_l1_ok N, trivial⟩), lok_none (by kernel_rfl)⟩) false (fun x => by kernel_rfl)
noncomputable def lex_Words_o : FOuts (Pat.teleL [.val .str] (MPat.tele [] Unit)) := (.one false (.tup [.own 0 3, .val (.int .i64), .val (.int .i64)]) [(0, ⟨30, 3, .list (.prod (.int .i64) (.prod .str (.int .i64)))⟩)] (Int × Int × (List (Int × (ByteArray × Int)))) (fun x y => (y.1, y.2.1, y.2.2, ())))
noncomputable def lex_Words_E (N : Nat) : FE := ⟨11, 0, [.val .str], [], lex_Words_o, fun x => lex_Words N x.1⟩
noncomputable def lex_Words_A (N : Nat) : Ann := { cx := ⟨Try.prog, dOf [lex_each_E N, lex_each_1_E N], md⟩, fn := 11, inr := false, rk := fun i => match i with | 6000011 => [2, 3, 4, 5] | _ => [], rx := fun i => match i with | 6000011 => [0, 2] | _ => [], mm := 0, fuel := 0, tab := [], xk := fun _ _ => [], L := LOf [] }
theorem lex_Words_ok (N : Nat) : FEok Try.prog (lex_Words_E N) :=
  fn_ok (A := lex_Words_A N) (pin := [.val .str]) (rin := []) (outs := lex_Words_o) (t := fun x => lex_Words_T N x.1) (dok_of ⟨lex_each_ok N, ⟨lex_each_1_ok N, trivial⟩⟩) mixed Try.func11 (by kernel_rfl) (tok_fn ⟨(tok_of rfl (by kernel_rfl) trivial), lok_of (A := lex_Words_A N) (fn := Try.f11) Try.func11 (by kernel_rfl) (by kernel_rfl)⟩) false (fun x => by kernel_rfl)
noncomputable def bautaref09_skip_o : FOuts (Pat.teleL [.val .str, .val (.int .i64)] (MPat.tele [] Unit)) := (.one false (.val (.int .i64)) [] Int (fun x y => (y, ())))
noncomputable def bautaref09_skip_E (N : Nat) : FE := ⟨34, 0, [.val .str, .val (.int .i64)], [], bautaref09_skip_o, fun x => bautaref09_skip N x.1 x.2.1⟩
noncomputable def bautaref09_skip_xk : Nat → Exit → List Nat
  | 10, .exit 2 => [0, 1]
  | 10, .normal => [0, 1]
  | 11, .normal => [0, 1]
  | 11, .ret => [4]
  | 7, .normal => [0, 1]
  | 7, .ret => [4]
  | 2, .ret => [4]
  | 2, .exit 0 => [1]
  | 2, .normal => [0, 1]
  | _, _ => []
noncomputable def bautaref09_skip_l5_in : SPat := ⟨[(0, .val .str), (0, .val (.int .i64))], 57, [], 0⟩
noncomputable def bautaref09_skip_l5_out : Outs bautaref09_skip_l5_in.X := (.one (.exit 2) ⟨[(0, .val .str), (0, .val (.int .i64))], 57, [], 0⟩ Int (fun x y => (x.1, y, ())))
noncomputable def bautaref09_skip_l5_e (N : Nat) : TE := ⟨10, bautaref09_skip_l5_in, bautaref09_skip_l5_out, fun x => bautaref09_skip_l5 N x.1 x.2.1⟩
noncomputable def bautaref09_skip_j5_in : SPat := ⟨[(0, .val .str), (0, .val (.int .i64)), (42, .val .bool)], 14, [], 0⟩
noncomputable def bautaref09_skip_j5_out : Outs bautaref09_skip_j5_in.X := (.or (.normal) ⟨[(0, .val .str), (0, .val (.int .i64))], 57, [], 0⟩ Int (fun x y => (x.1, y, ())) (.one (.ret) ⟨[(4, .val (.int .i64))], 54, [], 0⟩ Unit (fun x y => (x.2.1, ()))))
noncomputable def bautaref09_skip_j5_e (N : Nat) : TE := ⟨11, bautaref09_skip_j5_in, bautaref09_skip_j5_out, fun x => bautaref09_skip_j5 N x.1 x.2.1 x.2.2.1⟩
noncomputable def bautaref09_skip_j3_in : SPat := ⟨[(0, .val .str), (0, .val (.int .i64)), (22, .val .bool)], 34, [], 0⟩
noncomputable def bautaref09_skip_j3_out : Outs bautaref09_skip_j3_in.X := (.or (.normal) ⟨[(0, .val .str), (0, .val (.int .i64))], 57, [], 0⟩ Int (fun x y => (x.1, y, ())) (.one (.ret) ⟨[(4, .val (.int .i64))], 54, [], 0⟩ Unit (fun x y => (x.2.1, ()))))
noncomputable def bautaref09_skip_j3_e (N : Nat) : TE := ⟨7, bautaref09_skip_j3_in, bautaref09_skip_j3_out, fun x => bautaref09_skip_j3 N x.1 x.2.1 x.2.2.1⟩
noncomputable def bautaref09_skip_l1_in : SPat := ⟨[(0, .val .str), (0, .val (.int .i64))], 57, [], 0⟩
noncomputable def bautaref09_skip_l1_out : Outs bautaref09_skip_l1_in.X := (.or (.ret) ⟨[(4, .val (.int .i64))], 54, [], 0⟩ Int (fun x y => (y, ())) (.one (.exit 0) ⟨[(1, .val (.int .i64))], 57, [], 0⟩ Int (fun x y => (y, ()))))
noncomputable def bautaref09_skip_l1_e (N : Nat) : TE := ⟨2, bautaref09_skip_l1_in, bautaref09_skip_l1_out, fun x => bautaref09_skip_l1 N x.1 x.2.1⟩
noncomputable def bautaref09_skip_A (N : Nat) : Ann := { cx := ⟨Try.prog, dOf [], md⟩, fn := 34, inr := false, mm := 0, fuel := 0, tab := [(10, [0, 1]), (11, [0, 1, 44]), (7, [0, 1, 24]), (2, [0, 1])], xk := bautaref09_skip_xk, L := LOf [bautaref09_skip_l5_e N, bautaref09_skip_j5_e N, bautaref09_skip_j3_e N, bautaref09_skip_l1_e N] }
theorem bautaref09_skip_l5_ok (N : Nat) : EOK (bautaref09_skip_A N) (bautaref09_skip_l5_e N) ((findCut 10 (Try.f34.body.getD .skip)).getD .skip) :=
  loop_ok (pin := bautaref09_skip_l5_in) (outs := bautaref09_skip_l5_out) (V := Int) (s := fun x v => bautaref09_skip_l5_T N x.1 v) (mk := fun x v => (x.1, v, ())) (var := fun x => x.2.1) N rfl rfl (fun x => rfl) (fun x v R k => by kernel_rfl)
theorem bautaref09_skip_j5_ok (N : Nat) : EOK (bautaref09_skip_A N) (bautaref09_skip_j5_e N) ((findCut 11 (Try.f34.body.getD .skip)).getD .skip) :=
  join_ok (pin := bautaref09_skip_j5_in) (outs := bautaref09_skip_j5_out) (t := fun x => bautaref09_skip_j5_T N x.1 x.2.1 x.2.2.1) rfl (fun x R k => by kernel_rfl)
theorem bautaref09_skip_j3_ok (N : Nat) : EOK (bautaref09_skip_A N) (bautaref09_skip_j3_e N) ((findCut 7 (Try.f34.body.getD .skip)).getD .skip) :=
  join_ok (pin := bautaref09_skip_j3_in) (outs := bautaref09_skip_j3_out) (t := fun x => bautaref09_skip_j3_T N x.1 x.2.1 x.2.2.1) rfl (fun x R k => by kernel_rfl)
theorem bautaref09_skip_l1_ok (N : Nat) : EOK (bautaref09_skip_A N) (bautaref09_skip_l1_e N) ((findCut 2 (Try.f34.body.getD .skip)).getD .skip) :=
  loop_ok (pin := bautaref09_skip_l1_in) (outs := bautaref09_skip_l1_out) (V := Int) (s := fun x v => bautaref09_skip_l1_T N x.1 v) (mk := fun x v => (x.1, v, ())) (var := fun x => x.2.1) N rfl rfl (fun x => rfl) (fun x v R k => by kernel_rfl)
theorem bautaref09_skip_ok (N : Nat) : FEok Try.prog (bautaref09_skip_E N) :=
  fn_ok (A := bautaref09_skip_A N) (pin := [.val .str, .val (.int .i64)]) (rin := []) (outs := bautaref09_skip_o) (t := fun x => bautaref09_skip_T N x.1 x.2.1) (dok_of trivial) mixed Try.func34 (by kernel_rfl) (tok_fn ⟨(tok_of rfl (by kernel_rfl) ⟨bautaref09_skip_l5_ok N, ⟨bautaref09_skip_j5_ok N, ⟨bautaref09_skip_j3_ok N, ⟨bautaref09_skip_l1_ok N, trivial⟩⟩⟩⟩), lok_none (by kernel_rfl)⟩) false (fun x => by kernel_rfl)
noncomputable def bautaref09_letter_o : FOuts (Pat.teleL [.val (.int .u8)] (MPat.tele [] Unit)) := (.one false (.val .bool) [] Bool (fun x y => (y, ())))
noncomputable def bautaref09_letter_E (N : Nat) : FE := ⟨35, 0, [.val (.int .u8)], [], bautaref09_letter_o, fun x => bautaref09_letter N x.1⟩
noncomputable def bautaref09_letter_A (N : Nat) : Ann := { cx := ⟨Try.prog, dOf [], md⟩, fn := 35, inr := false, mm := 0, fuel := 0, tab := [], xk := fun _ _ => [], L := LOf [] }
theorem bautaref09_letter_ok (N : Nat) : FEok Try.prog (bautaref09_letter_E N) :=
  fn_ok (A := bautaref09_letter_A N) (pin := [.val (.int .u8)]) (rin := []) (outs := bautaref09_letter_o) (t := fun x => bautaref09_letter_T N x.1) (dok_of trivial) mixed Try.func35 (by kernel_rfl) (tok_fn ⟨(tok_of rfl (by kernel_rfl) trivial), lok_none (by kernel_rfl)⟩) false (fun x => by kernel_rfl)
noncomputable def bautaref09_num_o : FOuts (Pat.teleL [.val (.int .u8)] (MPat.tele [] Unit)) := (.one false (.val .bool) [] Bool (fun x y => (y, ())))
noncomputable def bautaref09_num_E (N : Nat) : FE := ⟨36, 0, [.val (.int .u8)], [], bautaref09_num_o, fun x => bautaref09_num N x.1⟩
noncomputable def bautaref09_num_A (N : Nat) : Ann := { cx := ⟨Try.prog, dOf [], md⟩, fn := 36, inr := false, mm := 0, fuel := 0, tab := [], xk := fun _ _ => [], L := LOf [] }
theorem bautaref09_num_ok (N : Nat) : FEok Try.prog (bautaref09_num_E N) :=
  fn_ok (A := bautaref09_num_A N) (pin := [.val (.int .u8)]) (rin := []) (outs := bautaref09_num_o) (t := fun x => bautaref09_num_T N x.1) (dok_of trivial) mixed Try.func36 (by kernel_rfl) (tok_fn ⟨(tok_of rfl (by kernel_rfl) trivial), lok_none (by kernel_rfl)⟩) false (fun x => by kernel_rfl)
noncomputable def bautaref09_In_o : FOuts (Pat.teleL [.val (.list .str), .val .str] (MPat.tele [] Unit)) := (.one false (.val .bool) [] Bool (fun x y => (y, ())))
noncomputable def bautaref09_In_E (N : Nat) : FE := ⟨37, 0, [.val (.list .str), .val .str], [], bautaref09_In_o, fun x => bautaref09_In N x.1 x.2.1⟩
noncomputable def bautaref09_In_xk : Nat → Exit → List Nat
  | 4, .ret => [4]
  | 4, .exit 0 => []
  | 4, .normal => [0, 1, 5]
  | _, _ => []
noncomputable def bautaref09_In_l2_in : SPat := ⟨[(0, .val (.list .str)), (0, .val .str), (3, .val (.int .i64))], 12, [], 0⟩
noncomputable def bautaref09_In_l2_out : Outs bautaref09_In_l2_in.X := (.or (.ret) ⟨[(4, .val .bool)], 13, [], 0⟩ Unit (fun x y => (true, ())) (.one (.exit 0) ⟨[], 18, [], 0⟩ Unit (fun x y => ())))
noncomputable def bautaref09_In_l2_e (N : Nat) : TE := ⟨4, bautaref09_In_l2_in, bautaref09_In_l2_out, fun x => bautaref09_In_l2 N x.1 x.2.1 x.2.2.1⟩
noncomputable def bautaref09_In_A (N : Nat) : Ann := { cx := ⟨Try.prog, dOf [], md⟩, fn := 37, inr := false, mm := 0, fuel := 0, tab := [(4, [0, 1, 5])], xk := bautaref09_In_xk, L := LOf [bautaref09_In_l2_e N] }
theorem bautaref09_In_l2_ok (N : Nat) : EOK (bautaref09_In_A N) (bautaref09_In_l2_e N) ((findCut 4 (Try.f37.body.getD .skip)).getD .skip) :=
  loop_ok (pin := bautaref09_In_l2_in) (outs := bautaref09_In_l2_out) (V := Int) (s := fun x v => bautaref09_In_l2_T N x.1 x.2.1 v) (mk := fun x v => (x.1, x.2.1, v, ())) (var := fun x => x.2.2.1) N rfl rfl (fun x => rfl) (fun x v R k => by kernel_rfl)
theorem bautaref09_In_ok (N : Nat) : FEok Try.prog (bautaref09_In_E N) :=
  fn_ok (A := bautaref09_In_A N) (pin := [.val (.list .str), .val .str]) (rin := []) (outs := bautaref09_In_o) (t := fun x => bautaref09_In_T N x.1 x.2.1) (dok_of trivial) mixed Try.func37 (by kernel_rfl) (tok_fn ⟨(tok_of rfl (by kernel_rfl) ⟨bautaref09_In_l2_ok N, trivial⟩), lok_none (by kernel_rfl)⟩) false (fun x => by kernel_rfl)
noncomputable def bautaref09_Word_o : FOuts (Pat.teleL [.val .str] (MPat.tele [] Unit)) := (.one false (.val .bool) [] Bool (fun x y => (y, ())))
noncomputable def bautaref09_Word_E (N : Nat) : FE := ⟨16, 0, [.val .str], [], bautaref09_Word_o, fun x => bautaref09_Word N x.1⟩
noncomputable def bautaref09_Word_A (N : Nat) : Ann := { cx := ⟨Try.prog, dOf [bautaref09_In_E N], md⟩, fn := 16, inr := false, mm := 0, fuel := 0, tab := [], xk := fun _ _ => [], L := LOf [] }
theorem bautaref09_Word_ok (N : Nat) : FEok Try.prog (bautaref09_Word_E N) :=
  fn_ok (A := bautaref09_Word_A N) (pin := [.val .str]) (rin := []) (outs := bautaref09_Word_o) (t := fun x => bautaref09_Word_T N x.1) (dok_of ⟨bautaref09_In_ok N, trivial⟩) mixed Try.func16 (by kernel_rfl) (tok_fn ⟨(tok_of rfl (by kernel_rfl) trivial), lok_none (by kernel_rfl)⟩) false (fun x => by kernel_rfl)
noncomputable def bautaref09_Words_o : FOuts (Pat.teleL [.val .str] (MPat.tele [] Unit)) := (.one false (.tup [.own 0 3, .val (.int .i64), .val (.int .i64)]) [(0, ⟨30, 3, .list (.prod (.int .i64) (.prod .str (.int .i64)))⟩)] (Int × Int × (List (Int × (ByteArray × Int)))) (fun x y => (y.1, y.2.1, y.2.2, ())))
noncomputable def bautaref09_Words_E (N : Nat) : FE := ⟨12, 0, [.val .str], [], bautaref09_Words_o, fun x => bautaref09_Words N x.1⟩
noncomputable def bautaref09_Words_xk : Nat → Exit → List Nat
  | 20, .exit 2 => [0, 5, 6, 7, 8, 9]
  | 20, .normal => [0, 5, 6, 7, 8, 9]
  | 35, .ret => [2, 3, 4]
  | 35, .normal => [0, 5, 6, 7, 8]
  | 47, .normal => [0, 5, 6, 7, 8]
  | 47, .ret => [2, 3, 4]
  | 43, .normal => [0, 5, 6, 7, 8]
  | 43, .ret => [2, 3, 4]
  | 21, .ret => [2, 3, 4]
  | 21, .normal => [0, 5, 6, 7, 8]
  | 55, .ret => [2, 3, 4]
  | 55, .normal => [0, 5, 6]
  | 10, .ret => [2, 3, 4]
  | 10, .exit 0 => [5]
  | 10, .normal => [0, 5, 6]
  | _, _ => []
noncomputable def bautaref09_Words_l10_in : SPat := ⟨[(0, .val .str), (4, .own 0 3), (0, .val (.int .i64)), (0, .ptr0 1 3 0), (0, .val (.int .i64)), (0, .val (.int .u8))], 138, [(0, ⟨30, 3, .list (.prod (.int .i64) (.prod .str (.int .i64)))⟩), (1, ⟨30, 3, .cells [.val (.int .i64), .val .str, .val (.int .i64)]⟩)], 2⟩
noncomputable def bautaref09_Words_l10_out : Outs bautaref09_Words_l10_in.X := (.one (.exit 2) ⟨[(0, .val .str), (4, .own 0 3), (0, .val (.int .i64)), (0, .ptr0 1 3 0), (0, .val (.int .i64)), (0, .val (.int .u8))], 138, [(0, ⟨30, 3, .list (.prod (.int .i64) (.prod .str (.int .i64)))⟩), (1, ⟨30, 3, .cells [.val (.int .i64), .val .str, .val (.int .i64)]⟩)], 2⟩ Int (fun x y => (x.1, x.2.1, y, x.2.2.2.1, x.2.2.2.2.1, x.2.2.2.2.2.1, x.2.2.2.2.2.2.1, x.2.2.2.2.2.2.2.1, ())))
noncomputable def bautaref09_Words_l10_e (N : Nat) : TE := ⟨20, bautaref09_Words_l10_in, bautaref09_Words_l10_out, fun x => bautaref09_Words_l10 N x.1 x.2.2.2.1 x.2.2.1⟩
noncomputable def bautaref09_Words_j17_in : SPat := ⟨[(0, .val .str), (4, .own 0 3), (0, .val (.int .i64)), (0, .ptr0 1 3 0), (0, .val (.int .i64))], 139, [(0, ⟨30, 3, .list (.prod (.int .i64) (.prod .str (.int .i64)))⟩), (1, ⟨30, 3, .cells [.val (.int .i64), .val .str, .val (.int .i64)]⟩)], 2⟩
noncomputable def bautaref09_Words_j17_out : Outs bautaref09_Words_j17_in.X := (.or (.ret) ⟨[(2, .own 0 3), (0, .val (.int .i64)), (0, .val (.int .i64))], 143, [(0, ⟨30, 3, .list (.prod (.int .i64) (.prod .str (.int .i64)))⟩)], 1⟩ Unit (fun x y => (x.2.1, 100, [], ())) (.one (.normal) ⟨[(0, .val .str), (4, .own 0 3), (0, .val (.int .i64)), (0, .ptr0 1 3 0), (0, .val (.int .i64))], 139, [(0, ⟨30, 3, .list (.prod (.int .i64) (.prod .str (.int .i64)))⟩), (1, ⟨30, 3, .cells [.val (.int .i64), .val .str, .val (.int .i64)]⟩)], 2⟩ Unit (fun x y => (x.1, x.2.1, x.2.2.1, x.2.2.2.1, x.2.2.2.2.1, x.2.2.2.2.2.1, x.2.2.2.2.2.2.1, ()))))
noncomputable def bautaref09_Words_j17_e (N : Nat) : TE := ⟨35, bautaref09_Words_j17_in, bautaref09_Words_j17_out, fun x => bautaref09_Words_j17 N x.2.1 x.2.2.1 x.2.2.2.2.1⟩
noncomputable def bautaref09_Words_j23_in : SPat := ⟨[(0, .val .str), (4, .own 0 3), (0, .val (.int .i64)), (0, .ptr0 1 3 0), (0, .val (.int .i64)), (105, .val .bool)], 33, [(0, ⟨30, 3, .list (.prod (.int .i64) (.prod .str (.int .i64)))⟩), (1, ⟨30, 3, .cells [.val (.int .i64), .val .str, .val (.int .i64)]⟩)], 2⟩
noncomputable def bautaref09_Words_j23_out : Outs bautaref09_Words_j23_in.X := (.or (.normal) ⟨[(0, .val .str), (4, .own 0 3), (0, .val (.int .i64)), (0, .ptr0 1 3 0), (0, .val (.int .i64))], 139, [(0, ⟨30, 3, .list (.prod (.int .i64) (.prod .str (.int .i64)))⟩), (1, ⟨30, 3, .cells [.val (.int .i64), .val .str, .val (.int .i64)]⟩)], 2⟩ Int (fun x y => (x.1, x.2.1, y, x.2.2.2.2.1, x.2.2.2.2.2.1, x.2.2.2.2.2.2.1, x.2.2.2.2.2.2.2.1, ())) (.one (.ret) ⟨[(2, .own 0 3), (0, .val (.int .i64)), (0, .val (.int .i64))], 143, [(0, ⟨30, 3, .list (.prod (.int .i64) (.prod .str (.int .i64)))⟩)], 1⟩ Unit (fun x y => (x.2.1, 100, [], ()))))
noncomputable def bautaref09_Words_j23_e (N : Nat) : TE := ⟨47, bautaref09_Words_j23_in, bautaref09_Words_j23_out, fun x => bautaref09_Words_j23 N x.1 x.2.1 x.2.2.1 x.2.2.2.1⟩
noncomputable def bautaref09_Words_j21_in : SPat := ⟨[(0, .val .str), (4, .own 0 3), (0, .val (.int .i64)), (0, .ptr0 1 3 0), (0, .val (.int .i64)), (89, .val .bool)], 49, [(0, ⟨30, 3, .list (.prod (.int .i64) (.prod .str (.int .i64)))⟩), (1, ⟨30, 3, .cells [.val (.int .i64), .val .str, .val (.int .i64)]⟩)], 2⟩
noncomputable def bautaref09_Words_j21_out : Outs bautaref09_Words_j21_in.X := (.or (.normal) ⟨[(0, .val .str), (4, .own 0 3), (0, .val (.int .i64)), (0, .ptr0 1 3 0), (0, .val (.int .i64))], 139, [(0, ⟨30, 3, .list (.prod (.int .i64) (.prod .str (.int .i64)))⟩), (1, ⟨30, 3, .cells [.val (.int .i64), .val .str, .val (.int .i64)]⟩)], 2⟩ Int (fun x y => (x.1, x.2.1, y, x.2.2.2.2.1, x.2.2.2.2.2.1, x.2.2.2.2.2.2.1, x.2.2.2.2.2.2.2.1, ())) (.one (.ret) ⟨[(2, .own 0 3), (0, .val (.int .i64)), (0, .val (.int .i64))], 143, [(0, ⟨30, 3, .list (.prod (.int .i64) (.prod .str (.int .i64)))⟩)], 1⟩ Unit (fun x y => (x.2.1, 100, [], ()))))
noncomputable def bautaref09_Words_j21_e (N : Nat) : TE := ⟨43, bautaref09_Words_j21_in, bautaref09_Words_j21_out, fun x => bautaref09_Words_j21 N x.1 x.2.1 x.2.2.1 x.2.2.2.1⟩
noncomputable def bautaref09_Words_j10_in : SPat := ⟨[(0, .val .str), (4, .own 0 3), (0, .val (.int .i64)), (0, .ptr0 1 3 0), (0, .val (.int .i64)), (0, .val (.int .u8)), (26, .val .bool)], 111, [(0, ⟨30, 3, .list (.prod (.int .i64) (.prod .str (.int .i64)))⟩), (1, ⟨30, 3, .cells [.val (.int .i64), .val .str, .val (.int .i64)]⟩)], 2⟩
noncomputable def bautaref09_Words_j10_out : Outs bautaref09_Words_j10_in.X := (.or (.ret) ⟨[(2, .own 0 3), (0, .val (.int .i64)), (0, .val (.int .i64))], 143, [(0, ⟨30, 3, .list (.prod (.int .i64) (.prod .str (.int .i64)))⟩)], 1⟩ Unit (fun x y => (x.2.1, 100, [], ())) (.one (.normal) ⟨[(0, .val .str), (4, .own 0 3), (0, .val (.int .i64)), (0, .ptr0 1 3 0), (0, .val (.int .i64))], 139, [(0, ⟨30, 3, .list (.prod (.int .i64) (.prod .str (.int .i64)))⟩), (1, ⟨30, 3, .cells [.val (.int .i64), .val .str, .val (.int .i64)]⟩)], 2⟩ (Int × Int) (fun x y => (x.1, x.2.1, y.1, x.2.2.2.2.2.1, y.2, x.2.2.2.2.2.2.2.1, x.2.2.2.2.2.2.2.2.1, ()))))
noncomputable def bautaref09_Words_j10_e (N : Nat) : TE := ⟨21, bautaref09_Words_j10_in, bautaref09_Words_j10_out, fun x => bautaref09_Words_j10 N x.1 x.2.1 x.2.2.1 x.2.2.2.1 x.2.2.2.2.1⟩
noncomputable def bautaref09_Words_j27_in : SPat := ⟨[(0, .val .str), (4, .own 0 3), (0, .val (.int .i64)), (0, .ptr0 1 3 0), (0, .val (.int .i64))], 139, [(0, ⟨30, 3, .list (.prod (.int .i64) (.prod .str (.int .i64)))⟩), (1, ⟨30, 3, .cells [.val (.int .i64), .val .str, .val (.int .i64)]⟩)], 2⟩
noncomputable def bautaref09_Words_j27_out : Outs bautaref09_Words_j27_in.X := (.or (.ret) ⟨[(2, .own 0 3), (0, .val (.int .i64)), (0, .val (.int .i64))], 143, [(0, ⟨30, 3, .list (.prod (.int .i64) (.prod .str (.int .i64)))⟩)], 1⟩ (Int × Int × (List (Int × (ByteArray × Int)))) (fun x y => (y.1, y.2.1, y.2.2, ())) (.one (.normal) ⟨[(0, .val .str), (4, .own 0 3), (0, .val (.int .i64))], 141, [(0, ⟨30, 3, .list (.prod (.int .i64) (.prod .str (.int .i64)))⟩)], 1⟩ (Int × (List (Int × (ByteArray × Int)))) (fun x y => (x.1, y.1, y.2, ()))))
noncomputable def bautaref09_Words_j27_e (N : Nat) : TE := ⟨55, bautaref09_Words_j27_in, bautaref09_Words_j27_out, fun x => bautaref09_Words_j27 N x.1 x.2.1 x.2.2.1 x.2.2.2.1 x.2.2.2.2.1 x.2.2.2.2.2.1 x.2.2.2.2.2.2.1⟩
noncomputable def bautaref09_Words_l5_in : SPat := ⟨[(0, .val .str), (4, .own 0 3), (0, .val (.int .i64))], 141, [(0, ⟨30, 3, .list (.prod (.int .i64) (.prod .str (.int .i64)))⟩)], 1⟩
noncomputable def bautaref09_Words_l5_out : Outs bautaref09_Words_l5_in.X := (.or (.ret) ⟨[(2, .own 0 3), (0, .val (.int .i64)), (0, .val (.int .i64))], 143, [(0, ⟨30, 3, .list (.prod (.int .i64) (.prod .str (.int .i64)))⟩)], 1⟩ (Int × Int × (List (Int × (ByteArray × Int)))) (fun x y => (y.1, y.2.1, y.2.2, ())) (.one (.exit 0) ⟨[(5, .own 0 3)], 142, [(0, ⟨30, 3, .list (.prod (.int .i64) (.prod .str (.int .i64)))⟩)], 1⟩ (List (Int × (ByteArray × Int))) (fun x y => (y, ()))))
noncomputable def bautaref09_Words_l5_e (N : Nat) : TE := ⟨10, bautaref09_Words_l5_in, bautaref09_Words_l5_out, fun x => bautaref09_Words_l5 N x.1 (x.2.1, x.2.2.1)⟩
noncomputable def bautaref09_Words_A (N : Nat) : Ann := { cx := ⟨Try.prog, dOf [bautaref09_skip_E N, bautaref09_letter_E N, bautaref09_num_E N, bautaref09_Word_E N, bautaref09_In_E N], md⟩, fn := 12, inr := false, mm := 0, fuel := 0, tab := [(20, [0, 5, 6, 7, 8, 9]), (35, [0, 5, 6, 7, 8]), (47, [0, 5, 6, 7, 8, 114]), (43, [0, 5, 6, 7, 8, 98]), (21, [0, 5, 6, 7, 8, 9, 36]), (55, [0, 5, 6, 7, 8]), (10, [0, 5, 6])], xk := bautaref09_Words_xk, L := LOf [bautaref09_Words_l10_e N, bautaref09_Words_j17_e N, bautaref09_Words_j23_e N, bautaref09_Words_j21_e N, bautaref09_Words_j10_e N, bautaref09_Words_j27_e N, bautaref09_Words_l5_e N] }
theorem bautaref09_Words_l10_ok (N : Nat) : EOK (bautaref09_Words_A N) (bautaref09_Words_l10_e N) ((findCut 20 (Try.f12.body.getD .skip)).getD .skip) :=
  loop_ok (pin := bautaref09_Words_l10_in) (outs := bautaref09_Words_l10_out) (V := Int) (s := fun x v => bautaref09_Words_l10_T N x.1 x.2.2.2.1 v) (mk := fun x v => (x.1, x.2.1, v, x.2.2.2.1, x.2.2.2.2.1, x.2.2.2.2.2.1, x.2.2.2.2.2.2.1, x.2.2.2.2.2.2.2.1, ())) (var := fun x => x.2.2.1) N rfl rfl (fun x => rfl) (fun x v R k => by kernel_rfl)
theorem bautaref09_Words_j17_ok (N : Nat) : EOK (bautaref09_Words_A N) (bautaref09_Words_j17_e N) ((findCut 35 (Try.f12.body.getD .skip)).getD .skip) :=
  join_ok (pin := bautaref09_Words_j17_in) (outs := bautaref09_Words_j17_out) (t := fun x => bautaref09_Words_j17_T N x.2.1 x.2.2.1 x.2.2.2.2.1) rfl (fun x R k => by kernel_rfl)
theorem bautaref09_Words_j23_ok (N : Nat) : EOK (bautaref09_Words_A N) (bautaref09_Words_j23_e N) ((findCut 47 (Try.f12.body.getD .skip)).getD .skip) :=
  join_ok (pin := bautaref09_Words_j23_in) (outs := bautaref09_Words_j23_out) (t := fun x => bautaref09_Words_j23_T N x.1 x.2.1 x.2.2.1 x.2.2.2.1) rfl (fun x R k => by kernel_rfl)
theorem bautaref09_Words_j21_ok (N : Nat) : EOK (bautaref09_Words_A N) (bautaref09_Words_j21_e N) ((findCut 43 (Try.f12.body.getD .skip)).getD .skip) :=
  join_ok (pin := bautaref09_Words_j21_in) (outs := bautaref09_Words_j21_out) (t := fun x => bautaref09_Words_j21_T N x.1 x.2.1 x.2.2.1 x.2.2.2.1) rfl (fun x R k => by kernel_rfl)
theorem bautaref09_Words_j10_ok (N : Nat) : EOK (bautaref09_Words_A N) (bautaref09_Words_j10_e N) ((findCut 21 (Try.f12.body.getD .skip)).getD .skip) :=
  join_ok (pin := bautaref09_Words_j10_in) (outs := bautaref09_Words_j10_out) (t := fun x => bautaref09_Words_j10_T N x.1 x.2.1 x.2.2.1 x.2.2.2.1 x.2.2.2.2.1) rfl (fun x R k => by kernel_rfl)
theorem bautaref09_Words_j27_ok (N : Nat) : EOK (bautaref09_Words_A N) (bautaref09_Words_j27_e N) ((findCut 55 (Try.f12.body.getD .skip)).getD .skip) :=
  join_ok (pin := bautaref09_Words_j27_in) (outs := bautaref09_Words_j27_out) (t := fun x => bautaref09_Words_j27_T N x.1 x.2.1 x.2.2.1 x.2.2.2.1 x.2.2.2.2.1 x.2.2.2.2.2.1 x.2.2.2.2.2.2.1) rfl (fun x R k => by kernel_rfl)
theorem bautaref09_Words_l5_ok (N : Nat) : EOK (bautaref09_Words_A N) (bautaref09_Words_l5_e N) ((findCut 10 (Try.f12.body.getD .skip)).getD .skip) :=
  loop_ok (pin := bautaref09_Words_l5_in) (outs := bautaref09_Words_l5_out) (V := (Int × (List (Int × (ByteArray × Int))))) (s := fun x v => bautaref09_Words_l5_T N x.1 v.1 v.2) (mk := fun x v => (x.1, v.1, v.2, ())) (var := fun x => (x.2.1, x.2.2.1)) N rfl rfl (fun x => rfl) (fun x v R k => by kernel_rfl)
theorem bautaref09_Words_ok (N : Nat) : FEok Try.prog (bautaref09_Words_E N) :=
  fn_ok (A := bautaref09_Words_A N) (pin := [.val .str]) (rin := []) (outs := bautaref09_Words_o) (t := fun x => bautaref09_Words_T N x.1) (dok_of ⟨bautaref09_skip_ok N, ⟨bautaref09_letter_ok N, ⟨bautaref09_num_ok N, ⟨bautaref09_Word_ok N, ⟨bautaref09_In_ok N, trivial⟩⟩⟩⟩⟩) mixed Try.func12 (by kernel_rfl) (tok_fn ⟨(tok_of rfl (by kernel_rfl) ⟨bautaref09_Words_l10_ok N, ⟨bautaref09_Words_j17_ok N, ⟨bautaref09_Words_j23_ok N, ⟨bautaref09_Words_j21_ok N, ⟨bautaref09_Words_j10_ok N, ⟨bautaref09_Words_j27_ok N, ⟨bautaref09_Words_l5_ok N, trivial⟩⟩⟩⟩⟩⟩⟩), lok_none (by kernel_rfl)⟩) false (fun x => by kernel_rfl)
noncomputable def bautaref09_Same_o : FOuts (Pat.teleL [.val (.list (.prod (.int .i64) (.prod .str (.int .i64)))), .val (.list (.prod (.int .i64) (.prod .str (.int .i64)))), .val .bool] (MPat.tele [] Unit)) := (.one false (.val .bool) [] Bool (fun x y => (y, ())))
noncomputable def bautaref09_Same_E (N : Nat) : FE := ⟨13, 0, [.val (.list (.prod (.int .i64) (.prod .str (.int .i64)))), .val (.list (.prod (.int .i64) (.prod .str (.int .i64)))), .val .bool], [], bautaref09_Same_o, fun x => bautaref09_Same N x.1 x.2.1 x.2.2.1⟩
noncomputable def bautaref09_Same_xk : Nat → Exit → List Nat
  | 8, .ret => [6]
  | 8, .exit 0 => []
  | 8, .normal => [0, 1, 2, 7]
  | _, _ => []
noncomputable def bautaref09_Same_l4_in : SPat := ⟨[(0, .val (.list (.prod (.int .i64) (.prod .str (.int .i64))))), (0, .val (.list (.prod (.int .i64) (.prod .str (.int .i64))))), (0, .val .bool), (4, .val (.int .i64))], 51, [], 0⟩
noncomputable def bautaref09_Same_l4_out : Outs bautaref09_Same_l4_in.X := (.or (.ret) ⟨[(6, .val .bool)], 52, [], 0⟩ Unit (fun x y => (false, ())) (.one (.exit 0) ⟨[], 59, [], 0⟩ Unit (fun x y => ())))
noncomputable def bautaref09_Same_l4_e (N : Nat) : TE := ⟨8, bautaref09_Same_l4_in, bautaref09_Same_l4_out, fun x => bautaref09_Same_l4 N x.1 x.2.1 x.2.2.1 x.2.2.2.1⟩
noncomputable def bautaref09_Same_A (N : Nat) : Ann := { cx := ⟨Try.prog, dOf [], md⟩, fn := 13, inr := false, mm := 0, fuel := 0, tab := [(8, [0, 1, 2, 7])], xk := bautaref09_Same_xk, L := LOf [bautaref09_Same_l4_e N] }
theorem bautaref09_Same_l4_ok (N : Nat) : EOK (bautaref09_Same_A N) (bautaref09_Same_l4_e N) ((findCut 8 (Try.f13.body.getD .skip)).getD .skip) :=
  loop_ok (pin := bautaref09_Same_l4_in) (outs := bautaref09_Same_l4_out) (V := Int) (s := fun x v => bautaref09_Same_l4_T N x.1 x.2.1 x.2.2.1 v) (mk := fun x v => (x.1, x.2.1, x.2.2.1, v, ())) (var := fun x => x.2.2.2.1) N rfl rfl (fun x => rfl) (fun x v R k => by kernel_rfl)
theorem bautaref09_Same_ok (N : Nat) : FEok Try.prog (bautaref09_Same_E N) :=
  fn_ok (A := bautaref09_Same_A N) (pin := [.val (.list (.prod (.int .i64) (.prod .str (.int .i64)))), .val (.list (.prod (.int .i64) (.prod .str (.int .i64)))), .val .bool]) (rin := []) (outs := bautaref09_Same_o) (t := fun x => bautaref09_Same_T N x.1 x.2.1 x.2.2.1) (dok_of trivial) mixed Try.func13 (by kernel_rfl) (tok_fn ⟨(tok_of rfl (by kernel_rfl) ⟨bautaref09_Same_l4_ok N, trivial⟩), lok_none (by kernel_rfl)⟩) false (fun x => by kernel_rfl)
noncomputable def lex_Word_o : FOuts (Pat.teleL [.val .str] (MPat.tele [] Unit)) := (.one false (.val .bool) [] Bool (fun x y => (y, ())))
noncomputable def lex_Word_E (N : Nat) : FE := ⟨15, 0, [.val .str], [], lex_Word_o, fun x => lex_Word N x.1⟩
noncomputable def lex_Word_A (N : Nat) : Ann := { cx := ⟨Try.prog, dOf [lex_isWord_E N], md⟩, fn := 15, inr := false, mm := 0, fuel := 0, tab := [], xk := fun _ _ => [], L := LOf [] }
theorem lex_Word_ok (N : Nat) : FEok Try.prog (lex_Word_E N) :=
  fn_ok (A := lex_Word_A N) (pin := [.val .str]) (rin := []) (outs := lex_Word_o) (t := fun x => lex_Word_T N x.1) (dok_of ⟨lex_isWord_ok N, trivial⟩) mixed Try.func15 (by kernel_rfl) (tok_fn ⟨(tok_of rfl (by kernel_rfl) trivial), lok_none (by kernel_rfl)⟩) false (fun x => by kernel_rfl)
noncomputable def lex_Name_o : FOuts (Pat.teleL [.val .str] (MPat.tele [] Unit)) := (.one false (.val .bool) [] Bool (fun x y => (y, ())))
noncomputable def lex_Name_E (N : Nat) : FE := ⟨17, 0, [.val .str], [], lex_Name_o, fun x => lex_Name N x.1⟩
noncomputable def lex_Name_A (N : Nat) : Ann := { cx := ⟨Try.prog, dOf [lex_letter_E N, lex_run_3_E N, lex_isWord_E N], md⟩, fn := 17, inr := false, mm := 0, fuel := 0, tab := [], xk := fun _ _ => [], L := LOf [] }
theorem lex_Name_ok (N : Nat) : FEok Try.prog (lex_Name_E N) :=
  fn_ok (A := lex_Name_A N) (pin := [.val .str]) (rin := []) (outs := lex_Name_o) (t := fun x => lex_Name_T N x.1) (dok_of ⟨lex_letter_ok N, ⟨lex_run_3_ok N, ⟨lex_isWord_ok N, trivial⟩⟩⟩) mixed Try.func17 (by kernel_rfl) (tok_fn ⟨(tok_of rfl (by kernel_rfl) trivial), lok_none (by kernel_rfl)⟩) false (fun x => by kernel_rfl)
noncomputable def bautalaw09_lives_o : FOuts (Pat.teleL [] (MPat.tele [] Unit)) := (.one false (.val .bool) [] Bool (fun x y => (y, ())))
noncomputable def bautalaw09_lives_E (N : Nat) : FE := ⟨14, 0, [], [], bautalaw09_lives_o, fun x => bautalaw09_lives N⟩
noncomputable def bautalaw09_lives_A (N : Nat) : Ann := { cx := ⟨Try.prog, dOf [lex_Words_E N, lex_Word_E N, lex_Name_E N], md⟩, fn := 14, inr := false, mm := 0, fuel := 0, tab := [], xk := fun _ _ => [], L := LOf [] }
theorem bautalaw09_lives_ok (N : Nat) : FEok Try.prog (bautalaw09_lives_E N) :=
  fn_ok (A := bautalaw09_lives_A N) (pin := []) (rin := []) (outs := bautalaw09_lives_o) (t := fun x => bautalaw09_lives_T N) (dok_of ⟨lex_Words_ok N, ⟨lex_Word_ok N, ⟨lex_Name_ok N, trivial⟩⟩⟩) mixed Try.func14 (by kernel_rfl) (tok_fn ⟨(tok_of rfl (by kernel_rfl) trivial), lok_none (by kernel_rfl)⟩) false (fun x => by kernel_rfl)
noncomputable def bautalaw09_LexWords_o : FOuts (Pat.teleL [.val .str] (MPat.tele [] Unit)) := (.one false (.val .bool) [] Bool (fun x y => (y, ())))
noncomputable def bautalaw09_LexWords_E (N : Nat) : FE := ⟨3, 0, [.val .str], [], bautalaw09_LexWords_o, fun x => bautalaw09_LexWords N x.1⟩
noncomputable def bautalaw09_LexWords_A (N : Nat) : Ann := { cx := ⟨Try.prog, dOf [lex_Words_E N, bautaref09_Words_E N, bautaref09_Same_E N, bautalaw09_lives_E N], md⟩, fn := 3, inr := false, mm := 0, fuel := 0, tab := [], xk := fun _ _ => [], L := LOf [] }
theorem bautalaw09_LexWords_ok (N : Nat) : FEok Try.prog (bautalaw09_LexWords_E N) :=
  fn_ok (A := bautalaw09_LexWords_A N) (pin := [.val .str]) (rin := []) (outs := bautalaw09_LexWords_o) (t := fun x => bautalaw09_LexWords_T N x.1) (dok_of ⟨lex_Words_ok N, ⟨bautaref09_Words_ok N, ⟨bautaref09_Same_ok N, ⟨bautalaw09_lives_ok N, trivial⟩⟩⟩⟩) mixed Try.func3 (by kernel_rfl) (tok_fn ⟨(tok_of rfl (by kernel_rfl) trivial), lok_none (by kernel_rfl)⟩) false (fun x => by kernel_rfl)
noncomputable def bautalaw09_LexOrder_o : FOuts (Pat.teleL [.val .str] (MPat.tele [] Unit)) := (.one false (.val .bool) [] Bool (fun x y => (y, ())))
noncomputable def bautalaw09_LexOrder_E (N : Nat) : FE := ⟨5, 0, [.val .str], [], bautalaw09_LexOrder_o, fun x => bautalaw09_LexOrder N x.1⟩
noncomputable def bautalaw09_LexOrder_xk : Nat → Exit → List Nat
  | 10, .ret => [2]
  | 10, .exit 0 => [3]
  | 10, .normal => [0, 3, 6]
  | _, _ => []
noncomputable def bautalaw09_LexOrder_l5_in : SPat := ⟨[(0, .val .str), (2, .own 0 3), (2, .val (.int .i64))], 101, [(0, ⟨30, 3, .list (.prod (.int .i64) (.prod .str (.int .i64)))⟩)], 1⟩
noncomputable def bautalaw09_LexOrder_l5_out : Outs bautalaw09_LexOrder_l5_in.X := (.or (.ret) ⟨[(2, .val .bool)], 105, [], 0⟩ Unit (fun x y => (false, ())) (.one (.exit 0) ⟨[(3, .own 0 3)], 104, [(0, ⟨30, 3, .list (.prod (.int .i64) (.prod .str (.int .i64)))⟩)], 1⟩ Unit (fun x y => (x.2.2.1, ()))))
noncomputable def bautalaw09_LexOrder_l5_e (N : Nat) : TE := ⟨10, bautalaw09_LexOrder_l5_in, bautalaw09_LexOrder_l5_out, fun x => bautalaw09_LexOrder_l5 N x.1 x.2.2.1 x.2.1⟩
noncomputable def bautalaw09_LexOrder_A (N : Nat) : Ann := { cx := ⟨Try.prog, dOf [lex_Words_E N, bautalaw09_lives_E N], md⟩, fn := 5, inr := false, mm := 0, fuel := 0, tab := [(10, [0, 3, 6])], xk := bautalaw09_LexOrder_xk, L := LOf [bautalaw09_LexOrder_l5_e N] }
theorem bautalaw09_LexOrder_l5_ok (N : Nat) : EOK (bautalaw09_LexOrder_A N) (bautalaw09_LexOrder_l5_e N) ((findCut 10 (Try.f5.body.getD .skip)).getD .skip) :=
  loop_ok (pin := bautalaw09_LexOrder_l5_in) (outs := bautalaw09_LexOrder_l5_out) (V := Int) (s := fun x v => bautalaw09_LexOrder_l5_T N x.1 x.2.2.1 v) (mk := fun x v => (x.1, v, x.2.2.1, ())) (var := fun x => x.2.1) N rfl rfl (fun x => rfl) (fun x v R k => by kernel_rfl)
theorem bautalaw09_LexOrder_ok (N : Nat) : FEok Try.prog (bautalaw09_LexOrder_E N) :=
  fn_ok (A := bautalaw09_LexOrder_A N) (pin := [.val .str]) (rin := []) (outs := bautalaw09_LexOrder_o) (t := fun x => bautalaw09_LexOrder_T N x.1) (dok_of ⟨lex_Words_ok N, ⟨bautalaw09_lives_ok N, trivial⟩⟩) mixed Try.func5 (by kernel_rfl) (tok_fn ⟨(tok_of rfl (by kernel_rfl) ⟨bautalaw09_LexOrder_l5_ok N, trivial⟩), lok_none (by kernel_rfl)⟩) false (fun x => by kernel_rfl)
noncomputable def bautaref09_Name_o : FOuts (Pat.teleL [.val .str] (MPat.tele [] Unit)) := (.one false (.val .bool) [] Bool (fun x y => (y, ())))
noncomputable def bautaref09_Name_E (N : Nat) : FE := ⟨18, 0, [.val .str], [], bautaref09_Name_o, fun x => bautaref09_Name N x.1⟩
noncomputable def bautaref09_Name_xk : Nat → Exit → List Nat
  | 8, .ret => [2]
  | 8, .exit 0 => []
  | 8, .normal => [0, 3]
  | 7, .ret => [2]
  | _, _ => []
noncomputable def bautaref09_Name_l4_in : SPat := ⟨[(0, .val .str), (2, .val (.int .i64))], 41, [], 0⟩
noncomputable def bautaref09_Name_l4_out : Outs bautaref09_Name_l4_in.X := (.or (.ret) ⟨[(2, .val .bool)], 42, [], 0⟩ Unit (fun x y => (false, ())) (.one (.exit 0) ⟨[], 45, [], 0⟩ Unit (fun x y => ())))
noncomputable def bautaref09_Name_l4_e (N : Nat) : TE := ⟨8, bautaref09_Name_l4_in, bautaref09_Name_l4_out, fun x => bautaref09_Name_l4 N x.1 x.2.1⟩
noncomputable def bautaref09_Name_j3_in : SPat := ⟨[(0, .val .str)], 44, [], 0⟩
noncomputable def bautaref09_Name_j3_out : Outs bautaref09_Name_j3_in.X := (.one (.ret) ⟨[(2, .val .bool)], 42, [], 0⟩ Bool (fun x y => (y, ())))
noncomputable def bautaref09_Name_j3_e (N : Nat) : TE := ⟨7, bautaref09_Name_j3_in, bautaref09_Name_j3_out, fun x => bautaref09_Name_j3 N x.1⟩
noncomputable def bautaref09_Name_A (N : Nat) : Ann := { cx := ⟨Try.prog, dOf [bautaref09_letter_E N, bautaref09_Word_E N, bautaref09_num_E N], md⟩, fn := 18, inr := false, mm := 0, fuel := 0, tab := [(8, [0, 3]), (7, [0])], xk := bautaref09_Name_xk, L := LOf [bautaref09_Name_l4_e N, bautaref09_Name_j3_e N] }
theorem bautaref09_Name_l4_ok (N : Nat) : EOK (bautaref09_Name_A N) (bautaref09_Name_l4_e N) ((findCut 8 (Try.f18.body.getD .skip)).getD .skip) :=
  loop_ok (pin := bautaref09_Name_l4_in) (outs := bautaref09_Name_l4_out) (V := Int) (s := fun x v => bautaref09_Name_l4_T N x.1 v) (mk := fun x v => (x.1, v, ())) (var := fun x => x.2.1) N rfl rfl (fun x => rfl) (fun x v R k => by kernel_rfl)
theorem bautaref09_Name_j3_ok (N : Nat) : EOK (bautaref09_Name_A N) (bautaref09_Name_j3_e N) ((findCut 7 (Try.f18.body.getD .skip)).getD .skip) :=
  join_ok (pin := bautaref09_Name_j3_in) (outs := bautaref09_Name_j3_out) (t := fun x => bautaref09_Name_j3_T N x.1) rfl (fun x R k => by kernel_rfl)
theorem bautaref09_Name_ok (N : Nat) : FEok Try.prog (bautaref09_Name_E N) :=
  fn_ok (A := bautaref09_Name_A N) (pin := [.val .str]) (rin := []) (outs := bautaref09_Name_o) (t := fun x => bautaref09_Name_T N x.1) (dok_of ⟨bautaref09_letter_ok N, ⟨bautaref09_Word_ok N, ⟨bautaref09_num_ok N, trivial⟩⟩⟩) mixed Try.func18 (by kernel_rfl) (tok_fn ⟨(tok_of rfl (by kernel_rfl) ⟨bautaref09_Name_l4_ok N, ⟨bautaref09_Name_j3_ok N, trivial⟩⟩), lok_none (by kernel_rfl)⟩) false (fun x => by kernel_rfl)
noncomputable def bautalaw09_LexNames_o : FOuts (Pat.teleL [.val .str] (MPat.tele [] Unit)) := (.one false (.val .bool) [] Bool (fun x y => (y, ())))
noncomputable def bautalaw09_LexNames_E (N : Nat) : FE := ⟨4, 0, [.val .str], [], bautalaw09_LexNames_o, fun x => bautalaw09_LexNames N x.1⟩
noncomputable def bautalaw09_LexNames_A (N : Nat) : Ann := { cx := ⟨Try.prog, dOf [lex_Word_E N, bautaref09_Word_E N, lex_Name_E N, bautaref09_Name_E N, bautalaw09_lives_E N], md⟩, fn := 4, inr := false, mm := 0, fuel := 0, tab := [], xk := fun _ _ => [], L := LOf [] }
theorem bautalaw09_LexNames_ok (N : Nat) : FEok Try.prog (bautalaw09_LexNames_E N) :=
  fn_ok (A := bautalaw09_LexNames_A N) (pin := [.val .str]) (rin := []) (outs := bautalaw09_LexNames_o) (t := fun x => bautalaw09_LexNames_T N x.1) (dok_of ⟨lex_Word_ok N, ⟨bautaref09_Word_ok N, ⟨lex_Name_ok N, ⟨bautaref09_Name_ok N, ⟨bautalaw09_lives_ok N, trivial⟩⟩⟩⟩⟩) mixed Try.func4 (by kernel_rfl) (tok_fn ⟨(tok_of rfl (by kernel_rfl) trivial), lok_none (by kernel_rfl)⟩) false (fun x => by kernel_rfl)
noncomputable def strings_Builder_copyCheck_o : FOuts (Pat.teleL [.ptr0 0 2 0] (MPat.tele [(0, ⟨61, 2, .cells [.oref .opt 0, .oref .buf 1]⟩), (1, ⟨5, 1, .list (.int .u8)⟩)] Unit)) := (.one false (.tup []) [(0, ⟨61, 2, .cells [.oref .opt 0, .oref .buf 1]⟩), (1, ⟨5, 1, .list (.int .u8)⟩)] Unit (fun x y => (x.1, ())))
noncomputable def strings_Builder_copyCheck_E (N : Nat) : FE := ⟨62, 1, [.ptr0 0 2 0], [(0, ⟨61, 2, .cells [.oref .opt 0, .oref .buf 1]⟩), (1, ⟨5, 1, .list (.int .u8)⟩)], strings_Builder_copyCheck_o, fun x => strings_Builder_copyCheck N⟩
theorem strings_Builder_copyCheck_ok (N : Nat) : FEok Try.prog (strings_Builder_copyCheck_E N) := ⟨fun _ => enters_run Try.func62 (by kernel_rfl), fun x y h => strings_Builder_copyCheck_c rfl rfl⟩
noncomputable def strings_Builder_WriteByte_o : FOuts (Pat.teleL [.ptr0 0 2 0, .val (.int .u8)] (MPat.tele [(0, ⟨61, 2, .cells [.oref .opt 0, .oref .buf 1]⟩), (1, ⟨5, 1, .list (.int .u8)⟩)] Unit)) := (.one false (.nili) [(0, ⟨61, 2, .cells [.oref .opt 0, .oref .buf 1]⟩), (1, ⟨5, 1, .list (.int .u8)⟩)] (List Int) (fun x y => (y, ())))
noncomputable def strings_Builder_WriteByte_E (N : Nat) : FE := ⟨42, 1, [.ptr0 0 2 0, .val (.int .u8)], [(0, ⟨61, 2, .cells [.oref .opt 0, .oref .buf 1]⟩), (1, ⟨5, 1, .list (.int .u8)⟩)], strings_Builder_WriteByte_o, fun x => strings_Builder_WriteByte N x.1 x.2.1⟩
noncomputable def strings_Builder_WriteByte_A (N : Nat) : Ann := { cx := ⟨Try.prog, dOf [strings_Builder_copyCheck_E N], md⟩, fn := 42, inr := false, mm := 1, fuel := 0, tab := [], xk := fun _ _ => [], L := LOf [] }
theorem strings_Builder_WriteByte_ok (N : Nat) : FEok Try.prog (strings_Builder_WriteByte_E N) :=
  fn_ok (A := strings_Builder_WriteByte_A N) (pin := [.ptr0 0 2 0, .val (.int .u8)]) (rin := [(0, ⟨61, 2, .cells [.oref .opt 0, .oref .buf 1]⟩), (1, ⟨5, 1, .list (.int .u8)⟩)]) (outs := strings_Builder_WriteByte_o) (t := fun x => strings_Builder_WriteByte_T N x.1 x.2.1) (dok_of ⟨strings_Builder_copyCheck_ok N, trivial⟩) mixed Try.func42 (by kernel_rfl) (tok_fn ⟨(tok_of rfl (by kernel_rfl) trivial), lok_none (by kernel_rfl)⟩) false (fun x => by kernel_rfl)
noncomputable def strings_Builder_WriteString_o : FOuts (Pat.teleL [.ptr0 0 2 0, .val .str] (MPat.tele [(0, ⟨61, 2, .cells [.oref .opt 0, .oref .buf 1]⟩), (1, ⟨5, 1, .list (.int .u8)⟩)] Unit)) := (.one false (.tup [.val (.int .i64), .nili]) [(0, ⟨61, 2, .cells [.oref .opt 0, .oref .buf 1]⟩), (1, ⟨5, 1, .list (.int .u8)⟩)] (Int × (List Int)) (fun x y => (y.1, y.2, ())))
noncomputable def strings_Builder_WriteString_E (N : Nat) : FE := ⟨43, 1, [.ptr0 0 2 0, .val .str], [(0, ⟨61, 2, .cells [.oref .opt 0, .oref .buf 1]⟩), (1, ⟨5, 1, .list (.int .u8)⟩)], strings_Builder_WriteString_o, fun x => strings_Builder_WriteString N x.1 x.2.1⟩
noncomputable def strings_Builder_WriteString_A (N : Nat) : Ann := { cx := ⟨Try.prog, dOf [strings_Builder_copyCheck_E N], md⟩, fn := 43, inr := false, mm := 1, fuel := 0, tab := [], xk := fun _ _ => [], L := LOf [] }
theorem strings_Builder_WriteString_ok (N : Nat) : FEok Try.prog (strings_Builder_WriteString_E N) :=
  fn_ok (A := strings_Builder_WriteString_A N) (pin := [.ptr0 0 2 0, .val .str]) (rin := [(0, ⟨61, 2, .cells [.oref .opt 0, .oref .buf 1]⟩), (1, ⟨5, 1, .list (.int .u8)⟩)]) (outs := strings_Builder_WriteString_o) (t := fun x => strings_Builder_WriteString_T N x.1 x.2.1) (dok_of ⟨strings_Builder_copyCheck_ok N, trivial⟩) mixed Try.func43 (by kernel_rfl) (tok_fn ⟨(tok_of rfl (by kernel_rfl) trivial), lok_none (by kernel_rfl)⟩) false (fun x => by kernel_rfl)
noncomputable def strings_Builder_String_o : FOuts (Pat.teleL [.ptr0 0 2 0] (MPat.tele [(0, ⟨61, 2, .cells [.oref .opt 0, .oref .buf 1]⟩), (1, ⟨5, 1, .list (.int .u8)⟩)] Unit)) := (.one false (.val .str) [(0, ⟨61, 2, .cells [.oref .opt 0, .dead]⟩)] ByteArray (fun x y => (y, ())))
noncomputable def strings_Builder_String_E (N : Nat) : FE := ⟨44, 1, [.ptr0 0 2 0], [(0, ⟨61, 2, .cells [.oref .opt 0, .oref .buf 1]⟩), (1, ⟨5, 1, .list (.int .u8)⟩)], strings_Builder_String_o, fun x => strings_Builder_String N x.1⟩
noncomputable def strings_Builder_String_A (N : Nat) : Ann := { cx := ⟨Try.prog, dOf [], md⟩, fn := 44, inr := false, mm := 1, fuel := 0, tab := [], xk := fun _ _ => [], L := LOf [] }
theorem strings_Builder_String_ok (N : Nat) : FEok Try.prog (strings_Builder_String_E N) :=
  fn_ok (A := strings_Builder_String_A N) (pin := [.ptr0 0 2 0]) (rin := [(0, ⟨61, 2, .cells [.oref .opt 0, .oref .buf 1]⟩), (1, ⟨5, 1, .list (.int .u8)⟩)]) (outs := strings_Builder_String_o) (t := fun x => strings_Builder_String_T N x.1) (dok_of trivial) mixed Try.func44 (by kernel_rfl) (tok_fn ⟨(tok_of rfl (by kernel_rfl) trivial), lok_none (by kernel_rfl)⟩) false (fun x => by kernel_rfl)
noncomputable def lex_Join_o : FOuts (Pat.teleL [.val (.list (.prod (.int .i64) (.prod .str (.int .i64))))] (MPat.tele [] Unit)) := (.one false (.val .str) [] ByteArray (fun x y => (y, ())))
noncomputable def lex_Join_E (N : Nat) : FE := ⟨19, 0, [.val (.list (.prod (.int .i64) (.prod .str (.int .i64))))], [], lex_Join_o, fun x => lex_Join N x.1⟩
noncomputable def lex_Join_xk : Nat → Exit → List Nat
  | 6, .exit 0 => [3]
  | 6, .normal => [3, 6, 7, 8]
  | _, _ => []
noncomputable def lex_Join_l3_in : SPat := ⟨[(3, .ptr0 0 2 0), (2, .val (.list (.prod (.int .i64) (.prod .str (.int .i64))))), (0, .val (.int .i64)), (0, .val (.int .i64))], 12, [(0, ⟨61, 2, .cells [.oref .opt 0, .oref .buf 1]⟩), (1, ⟨5, 1, .list (.int .u8)⟩)], 2⟩
noncomputable def lex_Join_l3_out : Outs lex_Join_l3_in.X := (.one (.exit 0) ⟨[(3, .ptr0 0 2 0)], 17, [(0, ⟨61, 2, .cells [.oref .opt 0, .oref .buf 1]⟩), (1, ⟨5, 1, .list (.int .u8)⟩)], 2⟩ (List Int) (fun x y => (y, ())))
noncomputable def lex_Join_l3_e (N : Nat) : TE := ⟨6, lex_Join_l3_in, lex_Join_l3_out, fun x => lex_Join_l3 N x.1 x.2.1 (x.2.2.1, x.2.2.2.1)⟩
noncomputable def lex_Join_A (N : Nat) : Ann := { cx := ⟨Try.prog, dOf [strings_Builder_WriteByte_E N, strings_Builder_WriteString_E N, strings_Builder_String_E N], md⟩, fn := 19, inr := false, mm := 0, fuel := 0, tab := [(6, [3, 6, 7, 8])], xk := lex_Join_xk, L := LOf [lex_Join_l3_e N] }
theorem lex_Join_l3_ok (N : Nat) : EOK (lex_Join_A N) (lex_Join_l3_e N) ((findCut 6 (Try.f19.body.getD .skip)).getD .skip) :=
  loop_ok (pin := lex_Join_l3_in) (outs := lex_Join_l3_out) (V := (Int × (List Int))) (s := fun x v => lex_Join_l3_T N x.1 x.2.1 v.1 v.2) (mk := fun x v => (x.1, x.2.1, v.1, v.2, ())) (var := fun x => (x.2.2.1, x.2.2.2.1)) N rfl rfl (fun x => rfl) (fun x v R k => by kernel_rfl)
theorem lex_Join_ok (N : Nat) : FEok Try.prog (lex_Join_E N) :=
  fn_ok (A := lex_Join_A N) (pin := [.val (.list (.prod (.int .i64) (.prod .str (.int .i64))))]) (rin := []) (outs := lex_Join_o) (t := fun x => lex_Join_T N x.1) (dok_of ⟨strings_Builder_WriteByte_ok N, ⟨strings_Builder_WriteString_ok N, ⟨strings_Builder_String_ok N, trivial⟩⟩⟩) mixed Try.func19 (by kernel_rfl) (tok_fn ⟨(tok_of rfl (by kernel_rfl) ⟨lex_Join_l3_ok N, trivial⟩), lok_none (by kernel_rfl)⟩) false (fun x => by kernel_rfl)
noncomputable def bautaref09_Join_o : FOuts (Pat.teleL [.val (.list (.prod (.int .i64) (.prod .str (.int .i64))))] (MPat.tele [] Unit)) := (.one false (.val .str) [] ByteArray (fun x y => (y, ())))
noncomputable def bautaref09_Join_E (N : Nat) : FE := ⟨20, 0, [.val (.list (.prod (.int .i64) (.prod .str (.int .i64))))], [], bautaref09_Join_o, fun x => bautaref09_Join N x.1⟩
noncomputable def bautaref09_Join_xk : Nat → Exit → List Nat
  | 15, .normal => [0, 3, 4]
  | 6, .exit 0 => [3]
  | 6, .normal => [0, 3, 4]
  | _, _ => []
noncomputable def bautaref09_Join_j7_in : SPat := ⟨[(0, .val (.list (.prod (.int .i64) (.prod .str (.int .i64))))), (2, .val .str), (0, .val (.int .i64))], 18, [], 0⟩
noncomputable def bautaref09_Join_j7_out : Outs bautaref09_Join_j7_in.X := (.one (.normal) ⟨[(0, .val (.list (.prod (.int .i64) (.prod .str (.int .i64))))), (2, .val .str), (0, .val (.int .i64))], 18, [], 0⟩ ByteArray (fun x y => (x.1, y, x.2.2.1, ())))
noncomputable def bautaref09_Join_j7_e (N : Nat) : TE := ⟨15, bautaref09_Join_j7_in, bautaref09_Join_j7_out, fun x => bautaref09_Join_j7 N x.1 x.2.1 x.2.2.1⟩
noncomputable def bautaref09_Join_l3_in : SPat := ⟨[(0, .val (.list (.prod (.int .i64) (.prod .str (.int .i64))))), (2, .val .str), (0, .val (.int .i64))], 18, [], 0⟩
noncomputable def bautaref09_Join_l3_out : Outs bautaref09_Join_l3_in.X := (.one (.exit 0) ⟨[(3, .val .str)], 19, [], 0⟩ ByteArray (fun x y => (y, ())))
noncomputable def bautaref09_Join_l3_e (N : Nat) : TE := ⟨6, bautaref09_Join_l3_in, bautaref09_Join_l3_out, fun x => bautaref09_Join_l3 N x.1 (x.2.1, x.2.2.1)⟩
noncomputable def bautaref09_Join_A (N : Nat) : Ann := { cx := ⟨Try.prog, dOf [], md⟩, fn := 20, inr := false, mm := 0, fuel := 0, tab := [(15, [0, 3, 4]), (6, [0, 3, 4])], xk := bautaref09_Join_xk, L := LOf [bautaref09_Join_j7_e N, bautaref09_Join_l3_e N] }
theorem bautaref09_Join_j7_ok (N : Nat) : EOK (bautaref09_Join_A N) (bautaref09_Join_j7_e N) ((findCut 15 (Try.f20.body.getD .skip)).getD .skip) :=
  join_ok (pin := bautaref09_Join_j7_in) (outs := bautaref09_Join_j7_out) (t := fun x => bautaref09_Join_j7_T N x.1 x.2.1 x.2.2.1) rfl (fun x R k => by kernel_rfl)
theorem bautaref09_Join_l3_ok (N : Nat) : EOK (bautaref09_Join_A N) (bautaref09_Join_l3_e N) ((findCut 6 (Try.f20.body.getD .skip)).getD .skip) :=
  loop_ok (pin := bautaref09_Join_l3_in) (outs := bautaref09_Join_l3_out) (V := (ByteArray × Int)) (s := fun x v => bautaref09_Join_l3_T N x.1 v.1 v.2) (mk := fun x v => (x.1, v.1, v.2, ())) (var := fun x => (x.2.1, x.2.2.1)) N rfl rfl (fun x => rfl) (fun x v R k => by kernel_rfl)
theorem bautaref09_Join_ok (N : Nat) : FEok Try.prog (bautaref09_Join_E N) :=
  fn_ok (A := bautaref09_Join_A N) (pin := [.val (.list (.prod (.int .i64) (.prod .str (.int .i64))))]) (rin := []) (outs := bautaref09_Join_o) (t := fun x => bautaref09_Join_T N x.1) (dok_of trivial) mixed Try.func20 (by kernel_rfl) (tok_fn ⟨(tok_of rfl (by kernel_rfl) ⟨bautaref09_Join_j7_ok N, ⟨bautaref09_Join_l3_ok N, trivial⟩⟩), lok_none (by kernel_rfl)⟩) false (fun x => by kernel_rfl)
noncomputable def bautalaw09_LexJoins_o : FOuts (Pat.teleL [.val .str] (MPat.tele [] Unit)) := (.one false (.val .bool) [] Bool (fun x y => (y, ())))
noncomputable def bautalaw09_LexJoins_E (N : Nat) : FE := ⟨6, 0, [.val .str], [], bautalaw09_LexJoins_o, fun x => bautalaw09_LexJoins N x.1⟩
noncomputable def bautalaw09_LexJoins_A (N : Nat) : Ann := { cx := ⟨Try.prog, dOf [lex_Words_E N, bautalaw09_lives_E N, lex_Join_E N, bautaref09_Join_E N, bautaref09_Same_E N], md⟩, fn := 6, inr := false, mm := 0, fuel := 0, tab := [], xk := fun _ _ => [], L := LOf [] }
theorem bautalaw09_LexJoins_ok (N : Nat) : FEok Try.prog (bautalaw09_LexJoins_E N) :=
  fn_ok (A := bautalaw09_LexJoins_A N) (pin := [.val .str]) (rin := []) (outs := bautalaw09_LexJoins_o) (t := fun x => bautalaw09_LexJoins_T N x.1) (dok_of ⟨lex_Words_ok N, ⟨bautalaw09_lives_ok N, ⟨lex_Join_ok N, ⟨bautaref09_Join_ok N, ⟨bautaref09_Same_ok N, trivial⟩⟩⟩⟩⟩) mixed Try.func6 (by kernel_rfl) (tok_fn ⟨(tok_of rfl (by kernel_rfl) trivial), lok_none (by kernel_rfl)⟩) false (fun x => by kernel_rfl)
end Go.Proofs.YtedadodniodnaaaV
