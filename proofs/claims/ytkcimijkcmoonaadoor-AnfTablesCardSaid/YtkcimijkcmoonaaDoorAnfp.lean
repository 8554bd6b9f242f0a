/- Anf: that they come to it (printed by wip/ext.py). -/
import Derived.Test.YtkcimijkcmoonaaDoorAnfd
import Derived.Test.YtkcimijkcmoonaaDoorVLp
import Derived.Test.YtkcimijkcmoonaaDoorChecked
namespace Go.Proofs.YtkcimijkcmoonaaDoorV
open Go.RowKit
set_option linter.unusedVariables false
set_option maxRecDepth 100000
noncomputable def md : FuncId → List Bool
  | 71 => [true, false]
  | 73 => [true]
  | 74 => [true, false]
  | 80 => [true]
  | 91 => [true, false]
  | 97 => [true, false, false]
  | 99 => [true]
  | 104 => [true, false, false]
  | 108 => [true, false]
  | 109 => [true, false, false, false]
  | 111 => [true, true, true, true]
  | 117 => [true, false]
  | 119 => [true, false]
  | 120 => [false, true]
  | 131 => [true, false, false]
  | 132 => [true, false, false]
  | 133 => [true, false, false]
  | 135 => [true, false, false]
  | 136 => [true, false, false]
  | 138 => [true, false, false, false]
  | 139 => [true, false, false, false]
  | 150 => [true, false]
  | 151 => [true, false]
  | 156 => [true, false, false, false]
  | 158 => [true]
  | 159 => [false, false, true]
  | 160 => [false, false, false, false, true]
  | 177 => [false, true]
  | 181 => [false, false, false, true]
  | 188 => [true, false]
  | 203 => [true]
  | 204 => [true]
  | 205 => [true]
  | 206 => [true]
  | 207 => [true]
  | 211 => [true]
  | 213 => [true]
  | 214 => [true]
  | _ => []
theorem mixed : Tryd.prog.follows .mixedOrders = true := by kernel_rfl
noncomputable def slices_pdqsortOrdered_o : FOuts (Pat.teleL [.own 0 1, .val (.int .i64), .val (.int .i64), .val (.int .i64)] (MPat.tele [(0, ⟨27, 1, .list (.int .u64)⟩)] Unit)) := (.one false (.tup []) [(0, ⟨27, 1, .list (.int .u64)⟩)] (List Int) (fun x y => (y, ())))
noncomputable def slices_pdqsortOrdered_Er (r : Int → Int → Int → (List Int) → Option (List Int)) : FE := ⟨109, 1, [.own 0 1, .val (.int .i64), .val (.int .i64), .val (.int .i64)], [(0, ⟨27, 1, .list (.int .u64)⟩)], slices_pdqsortOrdered_o, fun x => r x.1 x.2.1 x.2.2.1 x.2.2.2.1⟩
noncomputable def slices_pdqsortOrdered_E (N : Nat) : FE := slices_pdqsortOrdered_Er (slices_pdqsortOrdered N)
noncomputable def bautalaw34_short_o : FOuts (Pat.teleL [.val (.list (.int .u64))] (MPat.tele [] Unit)) := (.one false (.own 0 1) [(0, ⟨27, 1, .list (.int .u64)⟩)] (List Int) (fun x y => (y, ())))
noncomputable def bautalaw34_short_E (N : Nat) : FE := ⟨14, 0, [.val (.list (.int .u64))], [], bautalaw34_short_o, fun x => bautalaw34_short N x.1⟩
noncomputable def bautalaw34_short_A (N : Nat) : Ann := { cx := ⟨Tryd.prog, dOf [], md⟩, fn := 14, inr := false, mm := 0, fuel := 0, tab := [], xk := fun _ _ => [], L := LOf [] }
theorem bautalaw34_short_ok (N : Nat) : FEok Tryd.prog (bautalaw34_short_E N) :=
  fn_ok (A := bautalaw34_short_A N) (pin := [.val (.list (.int .u64))]) (rin := []) (outs := bautalaw34_short_o) (t := fun x => bautalaw34_short_T N x.1) (dok_of trivial) mixed Tryd.func14 (by kernel_rfl) (tok_fn ⟨(tok_of rfl (by kernel_rfl) trivial), lok_none (by kernel_rfl)⟩) false (fun x => by kernel_rfl)
noncomputable def slices_Clone_o : FOuts (Pat.teleL [.val (.list (.int .u64))] (MPat.tele [] Unit)) := (.one false (.own 0 1) [(0, ⟨27, 1, .list (.int .u64)⟩)] (List Int) (fun x y => (y, ())))
noncomputable def slices_Clone_E (N : Nat) : FE := ⟨79, 0, [.val (.list (.int .u64))], [], slices_Clone_o, fun x => slices_Clone N x.1⟩
noncomputable def slices_Clone_A (N : Nat) : Ann := { cx := ⟨Tryd.prog, dOf [], md⟩, fn := 79, inr := false, mm := 0, fuel := 0, tab := [], xk := fun _ _ => [], L := LOf [] }
theorem slices_Clone_ok (N : Nat) : FEok Tryd.prog (slices_Clone_E N) :=
  fn_ok (A := slices_Clone_A N) (pin := [.val (.list (.int .u64))]) (rin := []) (outs := slices_Clone_o) (t := fun x => slices_Clone_T N x.1) (dok_of trivial) mixed Tryd.func79 (by kernel_rfl) (tok_fn ⟨(tok_of rfl (by kernel_rfl) trivial), lok_none (by kernel_rfl)⟩) false (fun x => by kernel_rfl)
noncomputable def bits_Len64_o : FOuts (Pat.teleL [.val (.int .u64)] (MPat.tele [] Unit)) := (.one false (.val (.int .i64)) [] Int (fun x y => (y, ())))
noncomputable def bits_Len64_E (N : Nat) : FE := ⟨141, 0, [.val (.int .u64)], [], bits_Len64_o, fun x => bits_Len64 N x.1⟩
noncomputable def bits_Len64_xk : Nat → Exit → List Nat
  | 15, .ret => [2]
  | 9, .ret => [2]
  | _, _ => []
noncomputable def bits_Len64_j7_in : SPat := ⟨[(0, .val (.int .u64)), (1, .val (.int .i64))], 22, [], 0⟩
noncomputable def bits_Len64_j7_out : Outs bits_Len64_j7_in.X := (.one (.ret) ⟨[(2, .val (.int .i64))], 22, [], 0⟩ Int (fun x y => (y, ())))
noncomputable def bits_Len64_j7_e (N : Nat) : TE := ⟨15, bits_Len64_j7_in, bits_Len64_j7_out, fun x => bits_Len64_j7 N x.1 x.2.1⟩
noncomputable def bits_Len64_j4_in : SPat := ⟨[(0, .val (.int .u64)), (1, .val (.int .i64))], 22, [], 0⟩
noncomputable def bits_Len64_j4_out : Outs bits_Len64_j4_in.X := (.one (.ret) ⟨[(2, .val (.int .i64))], 22, [], 0⟩ Int (fun x y => (y, ())))
noncomputable def bits_Len64_j4_e (N : Nat) : TE := ⟨9, bits_Len64_j4_in, bits_Len64_j4_out, fun x => bits_Len64_j4 N x.1 x.2.1⟩
noncomputable def bits_Len64_A (N : Nat) : Ann := { cx := ⟨Tryd.prog, dOf [], md⟩, fn := 141, inr := false, mm := 0, fuel := 0, tab := [(15, [0, 2]), (9, [0, 2])], xk := bits_Len64_xk, L := LOf [bits_Len64_j7_e N, bits_Len64_j4_e N] }
theorem bits_Len64_j7_ok (N : Nat) : EOK (bits_Len64_A N) (bits_Len64_j7_e N) ((findCut 15 (Tryd.f141.body.getD .skip)).getD .skip) :=
  join_ok (pin := bits_Len64_j7_in) (outs := bits_Len64_j7_out) (t := fun x => bits_Len64_j7_T N x.1 x.2.1) rfl (fun x R k => by kernel_rfl)
theorem bits_Len64_j4_ok (N : Nat) : EOK (bits_Len64_A N) (bits_Len64_j4_e N) ((findCut 9 (Tryd.f141.body.getD .skip)).getD .skip) :=
  join_ok (pin := bits_Len64_j4_in) (outs := bits_Len64_j4_out) (t := fun x => bits_Len64_j4_T N x.1 x.2.1) rfl (fun x R k => by kernel_rfl)
theorem bits_Len64_ok (N : Nat) : FEok Tryd.prog (bits_Len64_E N) :=
  fn_ok (A := bits_Len64_A N) (pin := [.val (.int .u64)]) (rin := []) (outs := bits_Len64_o) (t := fun x => bits_Len64_T N x.1) (dok_of trivial) mixed Tryd.func141 (by kernel_rfl) (tok_fn ⟨(tok_of rfl (by kernel_rfl) ⟨bits_Len64_j7_ok N, ⟨bits_Len64_j4_ok N, trivial⟩⟩), lok_none (by kernel_rfl)⟩) false (fun x => by kernel_rfl)
noncomputable def bits_Len_o : FOuts (Pat.teleL [.val (.int .u64)] (MPat.tele [] Unit)) := (.one false (.val (.int .i64)) [] Int (fun x y => (y, ())))
noncomputable def bits_Len_E (N : Nat) : FE := ⟨110, 0, [.val (.int .u64)], [], bits_Len_o, fun x => bits_Len N x.1⟩
noncomputable def bits_Len_A (N : Nat) : Ann := { cx := ⟨Tryd.prog, dOf [bits_Len64_E N], md⟩, fn := 110, inr := false, mm := 0, fuel := 0, tab := [], xk := fun _ _ => [], L := LOf [] }
theorem bits_Len_ok (N : Nat) : FEok Tryd.prog (bits_Len_E N) :=
  fn_ok (A := bits_Len_A N) (pin := [.val (.int .u64)]) (rin := []) (outs := bits_Len_o) (t := fun x => bits_Len_T N x.1) (dok_of ⟨bits_Len64_ok N, trivial⟩) mixed Tryd.func110 (by kernel_rfl) (tok_fn ⟨(tok_of rfl (by kernel_rfl) trivial), lok_none (by kernel_rfl)⟩) false (fun x => by kernel_rfl)
noncomputable def cmp_isNaN_o : FOuts (Pat.teleL [.val (.int .u64)] (MPat.tele [] Unit)) := (.one false (.val .bool) [] Bool (fun x y => (y, ())))
noncomputable def cmp_isNaN_E (N : Nat) : FE := ⟨161, 0, [.val (.int .u64)], [], cmp_isNaN_o, fun x => cmp_isNaN N x.1⟩
noncomputable def cmp_isNaN_A (N : Nat) : Ann := { cx := ⟨Tryd.prog, dOf [], md⟩, fn := 161, inr := false, mm := 0, fuel := 0, tab := [], xk := fun _ _ => [], L := LOf [] }
theorem cmp_isNaN_ok (N : Nat) : FEok Tryd.prog (cmp_isNaN_E N) :=
  fn_ok (A := cmp_isNaN_A N) (pin := [.val (.int .u64)]) (rin := []) (outs := cmp_isNaN_o) (t := fun x => cmp_isNaN_T N x.1) (dok_of trivial) mixed Tryd.func161 (by kernel_rfl) (tok_fn ⟨(tok_of rfl (by kernel_rfl) trivial), lok_none (by kernel_rfl)⟩) false (fun x => by kernel_rfl)
noncomputable def cmp_Less_o : FOuts (Pat.teleL [.val (.int .u64), .val (.int .u64)] (MPat.tele [] Unit)) := (.one false (.val .bool) [] Bool (fun x y => (y, ())))
noncomputable def cmp_Less_E (N : Nat) : FE := ⟨137, 0, [.val (.int .u64), .val (.int .u64)], [], cmp_Less_o, fun x => cmp_Less N x.1 x.2.1⟩
noncomputable def cmp_Less_A (N : Nat) : Ann := { cx := ⟨Tryd.prog, dOf [cmp_isNaN_E N], md⟩, fn := 137, inr := false, mm := 0, fuel := 0, tab := [], xk := fun _ _ => [], L := LOf [] }
theorem cmp_Less_ok (N : Nat) : FEok Tryd.prog (cmp_Less_E N) :=
  fn_ok (A := cmp_Less_A N) (pin := [.val (.int .u64), .val (.int .u64)]) (rin := []) (outs := cmp_Less_o) (t := fun x => cmp_Less_T N x.1 x.2.1) (dok_of ⟨cmp_isNaN_ok N, trivial⟩) mixed Tryd.func137 (by kernel_rfl) (tok_fn ⟨(tok_of rfl (by kernel_rfl) trivial), lok_none (by kernel_rfl)⟩) false (fun x => by kernel_rfl)
noncomputable def slices_insertionSortOrdered_o : FOuts (Pat.teleL [.own 0 1, .val (.int .i64), .val (.int .i64)] (MPat.tele [(0, ⟨27, 1, .list (.int .u64)⟩)] Unit)) := (.one false (.tup []) [(0, ⟨27, 1, .list (.int .u64)⟩)] (List Int) (fun x y => (y, ())))
noncomputable def slices_insertionSortOrdered_E (N : Nat) : FE := ⟨131, 1, [.own 0 1, .val (.int .i64), .val (.int .i64)], [(0, ⟨27, 1, .list (.int .u64)⟩)], slices_insertionSortOrdered_o, fun x => slices_insertionSortOrdered N x.1 x.2.1 x.2.2.1⟩
noncomputable def slices_insertionSortOrdered_xk : Nat → Exit → List Nat
  | 13, .normal => [0, 1, 2, 6, 7]
  | 8, .exit 2 => [0, 1, 2, 6]
  | 8, .normal => [0, 1, 2, 6, 7]
  | 2, .exit 0 => []
  | 2, .normal => [0, 1, 2, 6]
  | _, _ => []
noncomputable def slices_insertionSortOrdered_j6_in : SPat := ⟨[(0, .own 0 1), (0, .val (.int .i64)), (0, .val (.int .i64)), (3, .val (.int .i64)), (0, .val (.int .i64))], 41, [(0, ⟨27, 1, .list (.int .u64)⟩)], 1⟩
noncomputable def slices_insertionSortOrdered_j6_out : Outs slices_insertionSortOrdered_j6_in.X := (.one (.normal) ⟨[(0, .own 0 1), (0, .val (.int .i64)), (0, .val (.int .i64)), (3, .val (.int .i64)), (0, .val (.int .i64))], 41, [(0, ⟨27, 1, .list (.int .u64)⟩)], 1⟩ (Int × (List Int)) (fun x y => (x.1, x.2.1, x.2.2.1, y.1, y.2, ())))
noncomputable def slices_insertionSortOrdered_j6_e (N : Nat) : TE := ⟨13, slices_insertionSortOrdered_j6_in, slices_insertionSortOrdered_j6_out, fun x => slices_insertionSortOrdered_j6 N x.2.2.2.1 x.2.2.2.2.1⟩
noncomputable def slices_insertionSortOrdered_l4_in : SPat := ⟨[(0, .own 0 1), (0, .val (.int .i64)), (0, .val (.int .i64)), (3, .val (.int .i64)), (0, .val (.int .i64))], 41, [(0, ⟨27, 1, .list (.int .u64)⟩)], 1⟩
noncomputable def slices_insertionSortOrdered_l4_out : Outs slices_insertionSortOrdered_l4_in.X := (.one (.exit 2) ⟨[(0, .own 0 1), (0, .val (.int .i64)), (0, .val (.int .i64)), (3, .val (.int .i64))], 42, [(0, ⟨27, 1, .list (.int .u64)⟩)], 1⟩ (List Int) (fun x y => (x.1, x.2.1, x.2.2.1, y, ())))
noncomputable def slices_insertionSortOrdered_l4_e (N : Nat) : TE := ⟨8, slices_insertionSortOrdered_l4_in, slices_insertionSortOrdered_l4_out, fun x => slices_insertionSortOrdered_l4 N x.1 (x.2.2.2.1, x.2.2.2.2.1)⟩
noncomputable def slices_insertionSortOrdered_l1_in : SPat := ⟨[(0, .own 0 1), (0, .val (.int .i64)), (0, .val (.int .i64)), (3, .val (.int .i64))], 42, [(0, ⟨27, 1, .list (.int .u64)⟩)], 1⟩
noncomputable def slices_insertionSortOrdered_l1_out : Outs slices_insertionSortOrdered_l1_in.X := (.one (.exit 0) ⟨[], 49, [(0, ⟨27, 1, .list (.int .u64)⟩)], 1⟩ (List Int) (fun x y => (y, ())))
noncomputable def slices_insertionSortOrdered_l1_e (N : Nat) : TE := ⟨2, slices_insertionSortOrdered_l1_in, slices_insertionSortOrdered_l1_out, fun x => slices_insertionSortOrdered_l1 N x.1 x.2.1 (x.2.2.1, x.2.2.2.1)⟩
noncomputable def slices_insertionSortOrdered_A (N : Nat) : Ann := { cx := ⟨Tryd.prog, dOf [cmp_Less_E N], md⟩, fn := 131, inr := false, mm := 1, fuel := 0, tab := [(13, [0, 1, 2, 6, 7]), (8, [0, 1, 2, 6, 7]), (2, [0, 1, 2, 6])], xk := slices_insertionSortOrdered_xk, L := LOf [slices_insertionSortOrdered_j6_e N, slices_insertionSortOrdered_l4_e N, slices_insertionSortOrdered_l1_e N] }
theorem slices_insertionSortOrdered_j6_ok (N : Nat) : EOK (slices_insertionSortOrdered_A N) (slices_insertionSortOrdered_j6_e N) ((findCut 13 (Tryd.f131.body.getD .skip)).getD .skip) :=
  join_ok (pin := slices_insertionSortOrdered_j6_in) (outs := slices_insertionSortOrdered_j6_out) (t := fun x => slices_insertionSortOrdered_j6_T N x.2.2.2.1 x.2.2.2.2.1) rfl (fun x R k => by kernel_rfl)
theorem slices_insertionSortOrdered_l4_ok (N : Nat) : EOK (slices_insertionSortOrdered_A N) (slices_insertionSortOrdered_l4_e N) ((findCut 8 (Tryd.f131.body.getD .skip)).getD .skip) :=
  loop_ok (pin := slices_insertionSortOrdered_l4_in) (outs := slices_insertionSortOrdered_l4_out) (V := (Int × (List Int))) (s := fun x v => slices_insertionSortOrdered_l4_T N x.1 v.1 v.2) (mk := fun x v => (x.1, x.2.1, x.2.2.1, v.1, v.2, ())) (var := fun x => (x.2.2.2.1, x.2.2.2.2.1)) N rfl rfl (fun x => rfl) (fun x v R k => by kernel_rfl)
theorem slices_insertionSortOrdered_l1_ok (N : Nat) : EOK (slices_insertionSortOrdered_A N) (slices_insertionSortOrdered_l1_e N) ((findCut 2 (Tryd.f131.body.getD .skip)).getD .skip) :=
  loop_ok (pin := slices_insertionSortOrdered_l1_in) (outs := slices_insertionSortOrdered_l1_out) (V := (Int × (List Int))) (s := fun x v => slices_insertionSortOrdered_l1_T N x.1 x.2.1 v.1 v.2) (mk := fun x v => (x.1, x.2.1, v.1, v.2, ())) (var := fun x => (x.2.2.1, x.2.2.2.1)) N rfl rfl (fun x => rfl) (fun x v R k => by kernel_rfl)
theorem slices_insertionSortOrdered_ok (N : Nat) : FEok Tryd.prog (slices_insertionSortOrdered_E N) :=
  fn_ok (A := slices_insertionSortOrdered_A N) (pin := [.own 0 1, .val (.int .i64), .val (.int .i64)]) (rin := [(0, ⟨27, 1, .list (.int .u64)⟩)]) (outs := slices_insertionSortOrdered_o) (t := fun x => slices_insertionSortOrdered_T N x.1 x.2.1 x.2.2.1) (dok_of ⟨cmp_Less_ok N, trivial⟩) mixed Tryd.func131 (by kernel_rfl) (tok_fn ⟨(tok_of rfl (by kernel_rfl) ⟨slices_insertionSortOrdered_j6_ok N, ⟨slices_insertionSortOrdered_l4_ok N, ⟨slices_insertionSortOrdered_l1_ok N, trivial⟩⟩⟩), lok_none (by kernel_rfl)⟩) false (fun x => by kernel_rfl)
noncomputable def slices_siftDownOrdered_o : FOuts (Pat.teleL [.own 0 1, .val (.int .i64), .val (.int .i64), .val (.int .i64)] (MPat.tele [(0, ⟨27, 1, .list (.int .u64)⟩)] Unit)) := (.one false (.tup []) [(0, ⟨27, 1, .list (.int .u64)⟩)] (List Int) (fun x y => (y, ())))
noncomputable def slices_siftDownOrdered_E (N : Nat) : FE := ⟨156, 1, [.own 0 1, .val (.int .i64), .val (.int .i64), .val (.int .i64)], [(0, ⟨27, 1, .list (.int .u64)⟩)], slices_siftDownOrdered_o, fun x => slices_siftDownOrdered N x.1 x.2.1 x.2.2.1 x.2.2.2.1⟩
noncomputable def slices_siftDownOrdered_xk : Nat → Exit → List Nat
  | 11, .ret => []
  | 11, .normal => [0, 2, 3, 8]
  | 2, .exit 0 => []
  | 2, .ret => []
  | 2, .normal => [0, 2, 3, 8]
  | _, _ => []
noncomputable def slices_siftDownOrdered_j5_in : SPat := ⟨[(0, .own 0 1), (1, .val (.int .i64)), (0, .val (.int .i64)), (4, .val (.int .i64)), (0, .val (.int .i64))], 66, [(0, ⟨27, 1, .list (.int .u64)⟩)], 1⟩
noncomputable def slices_siftDownOrdered_j5_out : Outs slices_siftDownOrdered_j5_in.X := (.or (.ret) ⟨[], 76, [(0, ⟨27, 1, .list (.int .u64)⟩)], 1⟩ Unit (fun x y => (x.2.2.2.2.1, ())) (.one (.normal) ⟨[(0, .own 0 1), (1, .val (.int .i64)), (0, .val (.int .i64)), (4, .val (.int .i64))], 67, [(0, ⟨27, 1, .list (.int .u64)⟩)], 1⟩ (List Int) (fun x y => (x.1, x.2.1, x.2.2.2.1, y, ()))))
noncomputable def slices_siftDownOrdered_j5_e (N : Nat) : TE := ⟨11, slices_siftDownOrdered_j5_in, slices_siftDownOrdered_j5_out, fun x => slices_siftDownOrdered_j5 N x.2.1 x.2.2.1 x.2.2.2.1 x.2.2.2.2.1⟩
noncomputable def slices_siftDownOrdered_l1_in : SPat := ⟨[(0, .own 0 1), (1, .val (.int .i64)), (0, .val (.int .i64)), (4, .val (.int .i64))], 67, [(0, ⟨27, 1, .list (.int .u64)⟩)], 1⟩
noncomputable def slices_siftDownOrdered_l1_out : Outs slices_siftDownOrdered_l1_in.X := (.or (.exit 0) ⟨[], 76, [(0, ⟨27, 1, .list (.int .u64)⟩)], 1⟩ (List Int) (fun x y => (y, ())) (.one (.ret) ⟨[], 76, [(0, ⟨27, 1, .list (.int .u64)⟩)], 1⟩ (List Int) (fun x y => (y, ()))))
noncomputable def slices_siftDownOrdered_l1_e (N : Nat) : TE := ⟨2, slices_siftDownOrdered_l1_in, slices_siftDownOrdered_l1_out, fun x => slices_siftDownOrdered_l1 N x.1 x.2.1 (x.2.2.1, x.2.2.2.1)⟩
noncomputable def slices_siftDownOrdered_A (N : Nat) : Ann := { cx := ⟨Tryd.prog, dOf [cmp_Less_E N], md⟩, fn := 156, inr := false, mm := 1, fuel := 0, tab := [(11, [0, 2, 3, 8, 9]), (2, [0, 2, 3, 8])], xk := slices_siftDownOrdered_xk, L := LOf [slices_siftDownOrdered_j5_e N, slices_siftDownOrdered_l1_e N] }
theorem slices_siftDownOrdered_j5_ok (N : Nat) : EOK (slices_siftDownOrdered_A N) (slices_siftDownOrdered_j5_e N) ((findCut 11 (Tryd.f156.body.getD .skip)).getD .skip) :=
  join_ok (pin := slices_siftDownOrdered_j5_in) (outs := slices_siftDownOrdered_j5_out) (t := fun x => slices_siftDownOrdered_j5_T N x.2.1 x.2.2.1 x.2.2.2.1 x.2.2.2.2.1) rfl (fun x R k => by kernel_rfl)
theorem slices_siftDownOrdered_l1_ok (N : Nat) : EOK (slices_siftDownOrdered_A N) (slices_siftDownOrdered_l1_e N) ((findCut 2 (Tryd.f156.body.getD .skip)).getD .skip) :=
  loop_ok (pin := slices_siftDownOrdered_l1_in) (outs := slices_siftDownOrdered_l1_out) (V := (Int × (List Int))) (s := fun x v => slices_siftDownOrdered_l1_T N x.1 x.2.1 v.1 v.2) (mk := fun x v => (x.1, x.2.1, v.1, v.2, ())) (var := fun x => (x.2.2.1, x.2.2.2.1)) N rfl rfl (fun x => rfl) (fun x v R k => by kernel_rfl)
theorem slices_siftDownOrdered_ok (N : Nat) : FEok Tryd.prog (slices_siftDownOrdered_E N) :=
  fn_ok (A := slices_siftDownOrdered_A N) (pin := [.own 0 1, .val (.int .i64), .val (.int .i64), .val (.int .i64)]) (rin := [(0, ⟨27, 1, .list (.int .u64)⟩)]) (outs := slices_siftDownOrdered_o) (t := fun x => slices_siftDownOrdered_T N x.1 x.2.1 x.2.2.1 x.2.2.2.1) (dok_of ⟨cmp_Less_ok N, trivial⟩) mixed Tryd.func156 (by kernel_rfl) (tok_fn ⟨(tok_of rfl (by kernel_rfl) ⟨slices_siftDownOrdered_j5_ok N, ⟨slices_siftDownOrdered_l1_ok N, trivial⟩⟩), lok_none (by kernel_rfl)⟩) false (fun x => by kernel_rfl)
noncomputable def slices_heapSortOrdered_o : FOuts (Pat.teleL [.own 0 1, .val (.int .i64), .val (.int .i64)] (MPat.tele [(0, ⟨27, 1, .list (.int .u64)⟩)] Unit)) := (.one false (.tup []) [(0, ⟨27, 1, .list (.int .u64)⟩)] (List Int) (fun x y => (y, ())))
noncomputable def slices_heapSortOrdered_E (N : Nat) : FE := ⟨132, 1, [.own 0 1, .val (.int .i64), .val (.int .i64)], [(0, ⟨27, 1, .list (.int .u64)⟩)], slices_heapSortOrdered_o, fun x => slices_heapSortOrdered N x.1 x.2.1 x.2.2.1⟩
noncomputable def slices_heapSortOrdered_xk : Nat → Exit → List Nat
  | 8, .exit 0 => [0, 6, 7, 8]
  | 8, .normal => [0, 6, 7, 8, 9]
  | 16, .exit 2 => []
  | 16, .normal => [0, 6, 7, 10]
  | _, _ => []
noncomputable def slices_heapSortOrdered_l4_in : SPat := ⟨[(0, .own 0 1), (5, .val (.int .i64)), (0, .val (.int .i64)), (0, .val (.int .i64)), (0, .val (.int .i64))], 46, [(0, ⟨27, 1, .list (.int .u64)⟩)], 1⟩
noncomputable def slices_heapSortOrdered_l4_out : Outs slices_heapSortOrdered_l4_in.X := (.one (.exit 0) ⟨[(0, .own 0 1), (5, .val (.int .i64)), (0, .val (.int .i64)), (0, .val (.int .i64))], 47, [(0, ⟨27, 1, .list (.int .u64)⟩)], 1⟩ (List Int) (fun x y => (x.1, x.2.1, x.2.2.1, y, ())))
noncomputable def slices_heapSortOrdered_l4_e (N : Nat) : TE := ⟨8, slices_heapSortOrdered_l4_in, slices_heapSortOrdered_l4_out, fun x => slices_heapSortOrdered_l4 N x.1 x.2.2.1 (x.2.2.2.1, x.2.2.2.2.1)⟩
noncomputable def slices_heapSortOrdered_l8_in : SPat := ⟨[(0, .own 0 1), (5, .val (.int .i64)), (0, .val (.int .i64)), (2, .val (.int .i64))], 45, [(0, ⟨27, 1, .list (.int .u64)⟩)], 1⟩
noncomputable def slices_heapSortOrdered_l8_out : Outs slices_heapSortOrdered_l8_in.X := (.one (.exit 2) ⟨[], 56, [(0, ⟨27, 1, .list (.int .u64)⟩)], 1⟩ (List Int) (fun x y => (y, ())))
noncomputable def slices_heapSortOrdered_l8_e (N : Nat) : TE := ⟨16, slices_heapSortOrdered_l8_in, slices_heapSortOrdered_l8_out, fun x => slices_heapSortOrdered_l8 N x.1 x.2.1 (x.2.2.1, x.2.2.2.1)⟩
noncomputable def slices_heapSortOrdered_A (N : Nat) : Ann := { cx := ⟨Tryd.prog, dOf [slices_siftDownOrdered_E N], md⟩, fn := 132, inr := false, mm := 1, fuel := 0, tab := [(8, [0, 6, 7, 8, 9]), (16, [0, 6, 7, 10])], xk := slices_heapSortOrdered_xk, L := LOf [slices_heapSortOrdered_l4_e N, slices_heapSortOrdered_l8_e N] }
theorem slices_heapSortOrdered_l4_ok (N : Nat) : EOK (slices_heapSortOrdered_A N) (slices_heapSortOrdered_l4_e N) ((findCut 8 (Tryd.f132.body.getD .skip)).getD .skip) :=
  loop_ok (pin := slices_heapSortOrdered_l4_in) (outs := slices_heapSortOrdered_l4_out) (V := (Int × (List Int))) (s := fun x v => slices_heapSortOrdered_l4_T N x.1 x.2.2.1 v.1 v.2) (mk := fun x v => (x.1, x.2.1, x.2.2.1, v.1, v.2, ())) (var := fun x => (x.2.2.2.1, x.2.2.2.2.1)) N rfl rfl (fun x => rfl) (fun x v R k => by kernel_rfl)
theorem slices_heapSortOrdered_l8_ok (N : Nat) : EOK (slices_heapSortOrdered_A N) (slices_heapSortOrdered_l8_e N) ((findCut 16 (Tryd.f132.body.getD .skip)).getD .skip) :=
  loop_ok (pin := slices_heapSortOrdered_l8_in) (outs := slices_heapSortOrdered_l8_out) (V := (Int × (List Int))) (s := fun x v => slices_heapSortOrdered_l8_T N x.1 x.2.1 v.1 v.2) (mk := fun x v => (x.1, x.2.1, v.1, v.2, ())) (var := fun x => (x.2.2.1, x.2.2.2.1)) N rfl rfl (fun x => rfl) (fun x v R k => by kernel_rfl)
theorem slices_heapSortOrdered_ok (N : Nat) : FEok Tryd.prog (slices_heapSortOrdered_E N) :=
  fn_ok (A := slices_heapSortOrdered_A N) (pin := [.own 0 1, .val (.int .i64), .val (.int .i64)]) (rin := [(0, ⟨27, 1, .list (.int .u64)⟩)]) (outs := slices_heapSortOrdered_o) (t := fun x => slices_heapSortOrdered_T N x.1 x.2.1 x.2.2.1) (dok_of ⟨slices_siftDownOrdered_ok N, trivial⟩) mixed Tryd.func132 (by kernel_rfl) (tok_fn ⟨(tok_of rfl (by kernel_rfl) ⟨slices_heapSortOrdered_l4_ok N, ⟨slices_heapSortOrdered_l8_ok N, trivial⟩⟩), lok_none (by kernel_rfl)⟩) false (fun x => by kernel_rfl)
noncomputable def slices_nextPowerOfTwo_o : FOuts (Pat.teleL [.val (.int .i64)] (MPat.tele [] Unit)) := (.one false (.val (.int .u64)) [] Int (fun x y => (y, ())))
noncomputable def slices_nextPowerOfTwo_E (N : Nat) : FE := ⟨157, 0, [.val (.int .i64)], [], slices_nextPowerOfTwo_o, fun x => slices_nextPowerOfTwo N x.1⟩
noncomputable def slices_nextPowerOfTwo_A (N : Nat) : Ann := { cx := ⟨Tryd.prog, dOf [bits_Len_E N], md⟩, fn := 157, inr := false, mm := 0, fuel := 0, tab := [], xk := fun _ _ => [], L := LOf [] }
theorem slices_nextPowerOfTwo_ok (N : Nat) : FEok Tryd.prog (slices_nextPowerOfTwo_E N) :=
  fn_ok (A := slices_nextPowerOfTwo_A N) (pin := [.val (.int .i64)]) (rin := []) (outs := slices_nextPowerOfTwo_o) (t := fun x => slices_nextPowerOfTwo_T N x.1) (dok_of ⟨bits_Len_ok N, trivial⟩) mixed Tryd.func157 (by kernel_rfl) (tok_fn ⟨(tok_of rfl (by kernel_rfl) trivial), lok_none (by kernel_rfl)⟩) false (fun x => by kernel_rfl)
noncomputable def slices_xorshift_Next_o : FOuts (Pat.teleL [.ptr0 0 1 0] (MPat.tele [(0, ⟨174, 1, .cells [.val (.int .u64)]⟩)] Unit)) := (.one false (.val (.int .u64)) [(0, ⟨174, 1, .cells [.val (.int .u64)]⟩)] (Int × Int) (fun x y => (y.1, y.2, ())))
noncomputable def slices_xorshift_Next_E (N : Nat) : FE := ⟨158, 1, [.ptr0 0 1 0], [(0, ⟨174, 1, .cells [.val (.int .u64)]⟩)], slices_xorshift_Next_o, fun x => slices_xorshift_Next N x.1⟩
noncomputable def slices_xorshift_Next_A (N : Nat) : Ann := { cx := ⟨Tryd.prog, dOf [], md⟩, fn := 158, inr := false, mm := 1, fuel := 0, tab := [], xk := fun _ _ => [], L := LOf [] }
theorem slices_xorshift_Next_ok (N : Nat) : FEok Tryd.prog (slices_xorshift_Next_E N) :=
  fn_ok (A := slices_xorshift_Next_A N) (pin := [.ptr0 0 1 0]) (rin := [(0, ⟨174, 1, .cells [.val (.int .u64)]⟩)]) (outs := slices_xorshift_Next_o) (t := fun x => slices_xorshift_Next_T N x.1) (dok_of trivial) mixed Tryd.func158 (by kernel_rfl) (tok_fn ⟨(tok_of rfl (by kernel_rfl) trivial), lok_none (by kernel_rfl)⟩) false (fun x => by kernel_rfl)
noncomputable def slices_breakPatternsOrdered_o : FOuts (Pat.teleL [.own 0 1, .val (.int .i64), .val (.int .i64)] (MPat.tele [(0, ⟨27, 1, .list (.int .u64)⟩)] Unit)) := (.one false (.tup []) [(0, ⟨27, 1, .list (.int .u64)⟩)] (List Int) (fun x y => (y, ())))
noncomputable def slices_breakPatternsOrdered_E (N : Nat) : FE := ⟨133, 1, [.own 0 1, .val (.int .i64), .val (.int .i64)], [(0, ⟨27, 1, .list (.int .u64)⟩)], slices_breakPatternsOrdered_o, fun x => slices_breakPatternsOrdered N x.1 x.2.1 x.2.2.1⟩
noncomputable def slices_breakPatternsOrdered_xk : Nat → Exit → List Nat
  | 21, .normal => [0, 1, 6, 7, 8, 9]
  | 10, .exit 0 => []
  | 10, .normal => [0, 1, 6, 7, 8, 9]
  | _, _ => []
noncomputable def slices_breakPatternsOrdered_j10_in : SPat := ⟨[(0, .own 0 1), (0, .val (.int .i64)), (4, .val (.int .i64)), (0, .ptr0 1 1 0), (0, .val (.int .u64)), (0, .val (.int .i64)), (0, .val (.int .i64))], 54, [(0, ⟨27, 1, .list (.int .u64)⟩), (1, ⟨174, 1, .cells [.val (.int .u64)]⟩)], 2⟩
noncomputable def slices_breakPatternsOrdered_j10_out : Outs slices_breakPatternsOrdered_j10_in.X := (.one (.normal) ⟨[(0, .own 0 1), (0, .val (.int .i64)), (4, .val (.int .i64)), (0, .ptr0 1 1 0), (0, .val (.int .u64)), (0, .val (.int .i64))], 55, [(0, ⟨27, 1, .list (.int .u64)⟩), (1, ⟨174, 1, .cells [.val (.int .u64)]⟩)], 2⟩ (List Int) (fun x y => (x.1, x.2.1, x.2.2.1, x.2.2.2.1, y, x.2.2.2.2.2.2.1, ())))
noncomputable def slices_breakPatternsOrdered_j10_e (N : Nat) : TE := ⟨21, slices_breakPatternsOrdered_j10_in, slices_breakPatternsOrdered_j10_out, fun x => slices_breakPatternsOrdered_j10 N x.1 x.2.2.2.1 x.2.2.2.2.1 x.2.2.2.2.2.1⟩
noncomputable def slices_breakPatternsOrdered_l5_in : SPat := ⟨[(0, .own 0 1), (0, .val (.int .i64)), (4, .val (.int .i64)), (0, .ptr0 1 1 0), (0, .val (.int .u64)), (0, .val (.int .i64))], 55, [(0, ⟨27, 1, .list (.int .u64)⟩), (1, ⟨174, 1, .cells [.val (.int .u64)]⟩)], 2⟩
noncomputable def slices_breakPatternsOrdered_l5_out : Outs slices_breakPatternsOrdered_l5_in.X := (.one (.exit 0) ⟨[], 65, [(0, ⟨27, 1, .list (.int .u64)⟩)], 1⟩ (List Int) (fun x y => (y, ())))
noncomputable def slices_breakPatternsOrdered_l5_e (N : Nat) : TE := ⟨10, slices_breakPatternsOrdered_l5_in, slices_breakPatternsOrdered_l5_out, fun x => slices_breakPatternsOrdered_l5 N x.1 x.2.1 x.2.2.1 (x.2.2.2.1, x.2.2.2.2.1, x.2.2.2.2.2.1)⟩
noncomputable def slices_breakPatternsOrdered_A (N : Nat) : Ann := { cx := ⟨Tryd.prog, dOf [slices_nextPowerOfTwo_E N, slices_xorshift_Next_E N], md⟩, fn := 133, inr := false, mm := 1, fuel := 0, tab := [(21, [0, 1, 6, 7, 8, 9, 10]), (10, [0, 1, 6, 7, 8, 9])], xk := slices_breakPatternsOrdered_xk, L := LOf [slices_breakPatternsOrdered_j10_e N, slices_breakPatternsOrdered_l5_e N] }
theorem slices_breakPatternsOrdered_j10_ok (N : Nat) : EOK (slices_breakPatternsOrdered_A N) (slices_breakPatternsOrdered_j10_e N) ((findCut 21 (Tryd.f133.body.getD .skip)).getD .skip) :=
  join_ok (pin := slices_breakPatternsOrdered_j10_in) (outs := slices_breakPatternsOrdered_j10_out) (t := fun x => slices_breakPatternsOrdered_j10_T N x.1 x.2.2.2.1 x.2.2.2.2.1 x.2.2.2.2.2.1) rfl (fun x R k => by kernel_rfl)
theorem slices_breakPatternsOrdered_l5_ok (N : Nat) : EOK (slices_breakPatternsOrdered_A N) (slices_breakPatternsOrdered_l5_e N) ((findCut 10 (Tryd.f133.body.getD .skip)).getD .skip) :=
  loop_ok (pin := slices_breakPatternsOrdered_l5_in) (outs := slices_breakPatternsOrdered_l5_out) (V := (Int × (List Int) × Int)) (s := fun x v => slices_breakPatternsOrdered_l5_T N x.1 x.2.1 x.2.2.1 v.1 v.2.1 v.2.2) (mk := fun x v => (x.1, x.2.1, x.2.2.1, v.1, v.2.1, v.2.2, ())) (var := fun x => (x.2.2.2.1, x.2.2.2.2.1, x.2.2.2.2.2.1)) N rfl rfl (fun x => rfl) (fun x v R k => by kernel_rfl)
theorem slices_breakPatternsOrdered_ok (N : Nat) : FEok Tryd.prog (slices_breakPatternsOrdered_E N) :=
  fn_ok (A := slices_breakPatternsOrdered_A N) (pin := [.own 0 1, .val (.int .i64), .val (.int .i64)]) (rin := [(0, ⟨27, 1, .list (.int .u64)⟩)]) (outs := slices_breakPatternsOrdered_o) (t := fun x => slices_breakPatternsOrdered_T N x.1 x.2.1 x.2.2.1) (dok_of ⟨slices_nextPowerOfTwo_ok N, ⟨slices_xorshift_Next_ok N, trivial⟩⟩) mixed Tryd.func133 (by kernel_rfl) (tok_fn ⟨(tok_of rfl (by kernel_rfl) ⟨slices_breakPatternsOrdered_j10_ok N, ⟨slices_breakPatternsOrdered_l5_ok N, trivial⟩⟩), lok_none (by kernel_rfl)⟩) false (fun x => by kernel_rfl)
noncomputable def slices_order2Ordered_o : FOuts (Pat.teleL [.val (.list (.int .u64)), .val (.int .i64), .val (.int .i64), .ptr0 0 1 0] (MPat.tele [(0, ⟨3, 1, .cells [.val (.int .i64)]⟩)] Unit)) := (.one false (.tup [.val (.int .i64), .val (.int .i64)]) [(0, ⟨3, 1, .cells [.val (.int .i64)]⟩)] (Int × Int × Int) (fun x y => (y.1, y.2.1, y.2.2, ())))
noncomputable def slices_order2Ordered_E (N : Nat) : FE := ⟨181, 1, [.val (.list (.int .u64)), .val (.int .i64), .val (.int .i64), .ptr0 0 1 0], [(0, ⟨3, 1, .cells [.val (.int .i64)]⟩)], slices_order2Ordered_o, fun x => slices_order2Ordered N x.1 x.2.1 x.2.2.1 x.2.2.2.1⟩
noncomputable def slices_order2Ordered_A (N : Nat) : Ann := { cx := ⟨Tryd.prog, dOf [cmp_Less_E N], md⟩, fn := 181, inr := false, mm := 1, fuel := 0, tab := [], xk := fun _ _ => [], L := LOf [] }
theorem slices_order2Ordered_ok (N : Nat) : FEok Tryd.prog (slices_order2Ordered_E N) :=
  fn_ok (A := slices_order2Ordered_A N) (pin := [.val (.list (.int .u64)), .val (.int .i64), .val (.int .i64), .ptr0 0 1 0]) (rin := [(0, ⟨3, 1, .cells [.val (.int .i64)]⟩)]) (outs := slices_order2Ordered_o) (t := fun x => slices_order2Ordered_T N x.1 x.2.1 x.2.2.1 x.2.2.2.1) (dok_of ⟨cmp_Less_ok N, trivial⟩) mixed Tryd.func181 (by kernel_rfl) (tok_fn ⟨(tok_of rfl (by kernel_rfl) trivial), lok_none (by kernel_rfl)⟩) false (fun x => by kernel_rfl)
noncomputable def slices_medianOrdered_o : FOuts (Pat.teleL [.val (.list (.int .u64)), .val (.int .i64), .val (.int .i64), .val (.int .i64), .ptr0 0 1 0] (MPat.tele [(0, ⟨3, 1, .cells [.val (.int .i64)]⟩)] Unit)) := (.one false (.val (.int .i64)) [(0, ⟨3, 1, .cells [.val (.int .i64)]⟩)] (Int × Int) (fun x y => (y.1, y.2, ())))
noncomputable def slices_medianOrdered_E (N : Nat) : FE := ⟨160, 1, [.val (.list (.int .u64)), .val (.int .i64), .val (.int .i64), .val (.int .i64), .ptr0 0 1 0], [(0, ⟨3, 1, .cells [.val (.int .i64)]⟩)], slices_medianOrdered_o, fun x => slices_medianOrdered N x.1 x.2.1 x.2.2.1 x.2.2.2.1 x.2.2.2.2.1⟩
noncomputable def slices_medianOrdered_A (N : Nat) : Ann := { cx := ⟨Tryd.prog, dOf [slices_order2Ordered_E N], md⟩, fn := 160, inr := false, mm := 1, fuel := 0, tab := [], xk := fun _ _ => [], L := LOf [] }
theorem slices_medianOrdered_ok (N : Nat) : FEok Tryd.prog (slices_medianOrdered_E N) :=
  fn_ok (A := slices_medianOrdered_A N) (pin := [.val (.list (.int .u64)), .val (.int .i64), .val (.int .i64), .val (.int .i64), .ptr0 0 1 0]) (rin := [(0, ⟨3, 1, .cells [.val (.int .i64)]⟩)]) (outs := slices_medianOrdered_o) (t := fun x => slices_medianOrdered_T N x.1 x.2.1 x.2.2.1 x.2.2.2.1 x.2.2.2.2.1) (dok_of ⟨slices_order2Ordered_ok N, trivial⟩) mixed Tryd.func160 (by kernel_rfl) (tok_fn ⟨(tok_of rfl (by kernel_rfl) trivial), lok_none (by kernel_rfl)⟩) false (fun x => by kernel_rfl)
noncomputable def slices_medianAdjacentOrdered_o : FOuts (Pat.teleL [.val (.list (.int .u64)), .val (.int .i64), .ptr0 0 1 0] (MPat.tele [(0, ⟨3, 1, .cells [.val (.int .i64)]⟩)] Unit)) := (.one false (.val (.int .i64)) [(0, ⟨3, 1, .cells [.val (.int .i64)]⟩)] (Int × Int) (fun x y => (y.1, y.2, ())))
noncomputable def slices_medianAdjacentOrdered_E (N : Nat) : FE := ⟨159, 1, [.val (.list (.int .u64)), .val (.int .i64), .ptr0 0 1 0], [(0, ⟨3, 1, .cells [.val (.int .i64)]⟩)], slices_medianAdjacentOrdered_o, fun x => slices_medianAdjacentOrdered N x.1 x.2.1 x.2.2.1⟩
noncomputable def slices_medianAdjacentOrdered_A (N : Nat) : Ann := { cx := ⟨Tryd.prog, dOf [slices_medianOrdered_E N], md⟩, fn := 159, inr := false, mm := 1, fuel := 0, tab := [], xk := fun _ _ => [], L := LOf [] }
theorem slices_medianAdjacentOrdered_ok (N : Nat) : FEok Tryd.prog (slices_medianAdjacentOrdered_E N) :=
  fn_ok (A := slices_medianAdjacentOrdered_A N) (pin := [.val (.list (.int .u64)), .val (.int .i64), .ptr0 0 1 0]) (rin := [(0, ⟨3, 1, .cells [.val (.int .i64)]⟩)]) (outs := slices_medianAdjacentOrdered_o) (t := fun x => slices_medianAdjacentOrdered_T N x.1 x.2.1 x.2.2.1) (dok_of ⟨slices_medianOrdered_ok N, trivial⟩) mixed Tryd.func159 (by kernel_rfl) (tok_fn ⟨(tok_of rfl (by kernel_rfl) trivial), lok_none (by kernel_rfl)⟩) false (fun x => by kernel_rfl)
noncomputable def slices_choosePivotOrdered_o : FOuts (Pat.teleL [.val (.list (.int .u64)), .val (.int .i64), .val (.int .i64)] (MPat.tele [] Unit)) := (.one false (.tup [.val (.int .i64), .val (.int .i64)]) [] (Int × Int) (fun x y => (y.1, y.2, ())))
noncomputable def slices_choosePivotOrdered_E (N : Nat) : FE := ⟨134, 0, [.val (.list (.int .u64)), .val (.int .i64), .val (.int .i64)], [], slices_choosePivotOrdered_o, fun x => slices_choosePivotOrdered N x.1 x.2.1 x.2.2.1⟩
noncomputable def slices_choosePivotOrdered_xk : Nat → Exit → List Nat
  | 25, .ret => [6, 7]
  | _, _ => []
noncomputable def slices_choosePivotOrdered_j12_in : SPat := ⟨[(9, .ptr0 0 1 0), (1, .val (.int .i64))], 45, [(0, ⟨3, 1, .cells [.val (.int .i64)]⟩)], 1⟩
noncomputable def slices_choosePivotOrdered_j12_out : Outs slices_choosePivotOrdered_j12_in.X := (.one (.ret) ⟨[(6, .val (.int .i64)), (0, .val (.int .i64))], 49, [], 0⟩ Int (fun x y => (x.1, y, ())))
noncomputable def slices_choosePivotOrdered_j12_e (N : Nat) : TE := ⟨25, slices_choosePivotOrdered_j12_in, slices_choosePivotOrdered_j12_out, fun x => slices_choosePivotOrdered_j12 N x.2.1⟩
noncomputable def slices_choosePivotOrdered_A (N : Nat) : Ann := { cx := ⟨Tryd.prog, dOf [slices_medianAdjacentOrdered_E N, slices_medianOrdered_E N], md⟩, fn := 134, inr := false, mm := 0, fuel := 0, tab := [(25, [9, 11])], xk := slices_choosePivotOrdered_xk, L := LOf [slices_choosePivotOrdered_j12_e N] }
theorem slices_choosePivotOrdered_j12_ok (N : Nat) : EOK (slices_choosePivotOrdered_A N) (slices_choosePivotOrdered_j12_e N) ((findCut 25 (Tryd.f134.body.getD .skip)).getD .skip) :=
  join_ok (pin := slices_choosePivotOrdered_j12_in) (outs := slices_choosePivotOrdered_j12_out) (t := fun x => slices_choosePivotOrdered_j12_T N x.2.1) rfl (fun x R k => by kernel_rfl)
theorem slices_choosePivotOrdered_ok (N : Nat) : FEok Tryd.prog (slices_choosePivotOrdered_E N) :=
  fn_ok (A := slices_choosePivotOrdered_A N) (pin := [.val (.list (.int .u64)), .val (.int .i64), .val (.int .i64)]) (rin := []) (outs := slices_choosePivotOrdered_o) (t := fun x => slices_choosePivotOrdered_T N x.1 x.2.1 x.2.2.1) (dok_of ⟨slices_medianAdjacentOrdered_ok N, ⟨slices_medianOrdered_ok N, trivial⟩⟩) mixed Tryd.func134 (by kernel_rfl) (tok_fn ⟨(tok_of rfl (by kernel_rfl) ⟨slices_choosePivotOrdered_j12_ok N, trivial⟩), lok_none (by kernel_rfl)⟩) false (fun x => by kernel_rfl)
noncomputable def slices_reverseRangeOrdered_o : FOuts (Pat.teleL [.own 0 1, .val (.int .i64), .val (.int .i64)] (MPat.tele [(0, ⟨27, 1, .list (.int .u64)⟩)] Unit)) := (.one false (.tup []) [(0, ⟨27, 1, .list (.int .u64)⟩)] (List Int) (fun x y => (y, ())))
noncomputable def slices_reverseRangeOrdered_E (N : Nat) : FE := ⟨135, 1, [.own 0 1, .val (.int .i64), .val (.int .i64)], [(0, ⟨27, 1, .list (.int .u64)⟩)], slices_reverseRangeOrdered_o, fun x => slices_reverseRangeOrdered N x.1 x.2.1 x.2.2.1⟩
noncomputable def slices_reverseRangeOrdered_xk : Nat → Exit → List Nat
  | 4, .exit 0 => []
  | 4, .normal => [0, 6, 7]
  | _, _ => []
noncomputable def slices_reverseRangeOrdered_l2_in : SPat := ⟨[(0, .own 0 1), (5, .val (.int .i64)), (0, .val (.int .i64))], 24, [(0, ⟨27, 1, .list (.int .u64)⟩)], 1⟩
noncomputable def slices_reverseRangeOrdered_l2_out : Outs slices_reverseRangeOrdered_l2_in.X := (.one (.exit 0) ⟨[], 32, [(0, ⟨27, 1, .list (.int .u64)⟩)], 1⟩ (List Int) (fun x y => (y, ())))
noncomputable def slices_reverseRangeOrdered_l2_e (N : Nat) : TE := ⟨4, slices_reverseRangeOrdered_l2_in, slices_reverseRangeOrdered_l2_out, fun x => slices_reverseRangeOrdered_l2 N (x.1, x.2.1, x.2.2.1)⟩
noncomputable def slices_reverseRangeOrdered_A (N : Nat) : Ann := { cx := ⟨Tryd.prog, dOf [], md⟩, fn := 135, inr := false, mm := 1, fuel := 0, tab := [(4, [0, 6, 7])], xk := slices_reverseRangeOrdered_xk, L := LOf [slices_reverseRangeOrdered_l2_e N] }
theorem slices_reverseRangeOrdered_l2_ok (N : Nat) : EOK (slices_reverseRangeOrdered_A N) (slices_reverseRangeOrdered_l2_e N) ((findCut 4 (Tryd.f135.body.getD .skip)).getD .skip) :=
  loop_ok (pin := slices_reverseRangeOrdered_l2_in) (outs := slices_reverseRangeOrdered_l2_out) (V := (Int × Int × (List Int))) (s := fun x v => slices_reverseRangeOrdered_l2_T N v.1 v.2.1 v.2.2) (mk := fun x v => (v.1, v.2.1, v.2.2, ())) (var := fun x => (x.1, x.2.1, x.2.2.1)) N rfl rfl (fun x => rfl) (fun x v R k => by kernel_rfl)
theorem slices_reverseRangeOrdered_ok (N : Nat) : FEok Tryd.prog (slices_reverseRangeOrdered_E N) :=
  fn_ok (A := slices_reverseRangeOrdered_A N) (pin := [.own 0 1, .val (.int .i64), .val (.int .i64)]) (rin := [(0, ⟨27, 1, .list (.int .u64)⟩)]) (outs := slices_reverseRangeOrdered_o) (t := fun x => slices_reverseRangeOrdered_T N x.1 x.2.1 x.2.2.1) (dok_of trivial) mixed Tryd.func135 (by kernel_rfl) (tok_fn ⟨(tok_of rfl (by kernel_rfl) ⟨slices_reverseRangeOrdered_l2_ok N, trivial⟩), lok_none (by kernel_rfl)⟩) false (fun x => by kernel_rfl)
noncomputable def slices_partialInsertionSortOrdered_o : FOuts (Pat.teleL [.own 0 1, .val (.int .i64), .val (.int .i64)] (MPat.tele [(0, ⟨27, 1, .list (.int .u64)⟩)] Unit)) := (.one false (.val .bool) [(0, ⟨27, 1, .list (.int .u64)⟩)] (Bool × (List Int)) (fun x y => (y.1, y.2, ())))
noncomputable def slices_partialInsertionSortOrdered_E (N : Nat) : FE := ⟨136, 1, [.own 0 1, .val (.int .i64), .val (.int .i64)], [(0, ⟨27, 1, .list (.int .u64)⟩)], slices_partialInsertionSortOrdered_o, fun x => slices_partialInsertionSortOrdered N x.1 x.2.1 x.2.2.1⟩
noncomputable def slices_partialInsertionSortOrdered_xk : Nat → Exit → List Nat
  | 10, .exit 2 => [0, 1, 2, 7, 8]
  | 10, .normal => [0, 1, 2, 7, 8]
  | 28, .exit 4 => [0, 1, 2, 7, 8]
  | 28, .normal => [0, 1, 2, 7, 8, 9]
  | 40, .exit 6 => [0, 1, 2, 7, 8]
  | 40, .normal => [0, 1, 2, 7, 8, 10]
  | 37, .normal => [0, 1, 2, 7, 8]
  | 6, .ret => [6]
  | 6, .exit 0 => []
  | 6, .normal => [0, 1, 2, 7, 8]
  | _, _ => []
noncomputable def slices_partialInsertionSortOrdered_l5_in : SPat := ⟨[(0, .own 0 1), (0, .val (.int .i64)), (0, .val (.int .i64)), (4, .val (.int .i64)), (0, .val (.int .i64))], 124, [(0, ⟨27, 1, .list (.int .u64)⟩)], 1⟩
noncomputable def slices_partialInsertionSortOrdered_l5_out : Outs slices_partialInsertionSortOrdered_l5_in.X := (.one (.exit 2) ⟨[(0, .own 0 1), (0, .val (.int .i64)), (0, .val (.int .i64)), (4, .val (.int .i64)), (0, .val (.int .i64))], 124, [(0, ⟨27, 1, .list (.int .u64)⟩)], 1⟩ Int (fun x y => (x.1, x.2.1, y, x.2.2.2.1, x.2.2.2.2.1, ())))
noncomputable def slices_partialInsertionSortOrdered_l5_e (N : Nat) : TE := ⟨10, slices_partialInsertionSortOrdered_l5_in, slices_partialInsertionSortOrdered_l5_out, fun x => slices_partialInsertionSortOrdered_l5 N x.2.1 x.2.2.2.2.1 x.2.2.1⟩
noncomputable def slices_partialInsertionSortOrdered_l14_in : SPat := ⟨[(0, .own 0 1), (0, .val (.int .i64)), (0, .val (.int .i64)), (4, .val (.int .i64)), (0, .val (.int .i64)), (0, .val (.int .i64))], 123, [(0, ⟨27, 1, .list (.int .u64)⟩)], 1⟩
noncomputable def slices_partialInsertionSortOrdered_l14_out : Outs slices_partialInsertionSortOrdered_l14_in.X := (.one (.exit 4) ⟨[(0, .own 0 1), (0, .val (.int .i64)), (0, .val (.int .i64)), (4, .val (.int .i64)), (0, .val (.int .i64))], 124, [(0, ⟨27, 1, .list (.int .u64)⟩)], 1⟩ (List Int) (fun x y => (x.1, x.2.1, x.2.2.1, x.2.2.2.1, y, ())))
noncomputable def slices_partialInsertionSortOrdered_l14_e (N : Nat) : TE := ⟨28, slices_partialInsertionSortOrdered_l14_in, slices_partialInsertionSortOrdered_l14_out, fun x => slices_partialInsertionSortOrdered_l14 N (x.2.2.2.2.1, x.2.2.2.2.2.1)⟩
noncomputable def slices_partialInsertionSortOrdered_l20_in : SPat := ⟨[(0, .own 0 1), (0, .val (.int .i64)), (0, .val (.int .i64)), (4, .val (.int .i64)), (0, .val (.int .i64)), (1, .val (.int .i64))], 122, [(0, ⟨27, 1, .list (.int .u64)⟩)], 1⟩
noncomputable def slices_partialInsertionSortOrdered_l20_out : Outs slices_partialInsertionSortOrdered_l20_in.X := (.one (.exit 6) ⟨[(0, .own 0 1), (0, .val (.int .i64)), (0, .val (.int .i64)), (4, .val (.int .i64)), (0, .val (.int .i64))], 124, [(0, ⟨27, 1, .list (.int .u64)⟩)], 1⟩ (List Int) (fun x y => (x.1, x.2.1, x.2.2.1, x.2.2.2.1, y, ())))
noncomputable def slices_partialInsertionSortOrdered_l20_e (N : Nat) : TE := ⟨40, slices_partialInsertionSortOrdered_l20_in, slices_partialInsertionSortOrdered_l20_out, fun x => slices_partialInsertionSortOrdered_l20 N x.2.1 (x.2.2.2.2.1, x.2.2.2.2.2.1)⟩
noncomputable def slices_partialInsertionSortOrdered_j18_in : SPat := ⟨[(0, .own 0 1), (0, .val (.int .i64)), (0, .val (.int .i64)), (4, .val (.int .i64)), (0, .val (.int .i64))], 124, [(0, ⟨27, 1, .list (.int .u64)⟩)], 1⟩
noncomputable def slices_partialInsertionSortOrdered_j18_out : Outs slices_partialInsertionSortOrdered_j18_in.X := (.one (.normal) ⟨[(0, .own 0 1), (0, .val (.int .i64)), (0, .val (.int .i64)), (4, .val (.int .i64)), (0, .val (.int .i64))], 124, [(0, ⟨27, 1, .list (.int .u64)⟩)], 1⟩ (List Int) (fun x y => (x.1, x.2.1, x.2.2.1, x.2.2.2.1, y, ())))
noncomputable def slices_partialInsertionSortOrdered_j18_e (N : Nat) : TE := ⟨37, slices_partialInsertionSortOrdered_j18_in, slices_partialInsertionSortOrdered_j18_out, fun x => slices_partialInsertionSortOrdered_j18 N x.2.1 x.2.2.1 x.2.2.2.2.1⟩
noncomputable def slices_partialInsertionSortOrdered_l3_in : SPat := ⟨[(0, .own 0 1), (0, .val (.int .i64)), (0, .val (.int .i64)), (4, .val (.int .i64)), (0, .val (.int .i64))], 124, [(0, ⟨27, 1, .list (.int .u64)⟩)], 1⟩
noncomputable def slices_partialInsertionSortOrdered_l3_out : Outs slices_partialInsertionSortOrdered_l3_in.X := (.or (.ret) ⟨[(6, .val .bool)], 126, [(0, ⟨27, 1, .list (.int .u64)⟩)], 1⟩ (Bool × (List Int)) (fun x y => (y.1, y.2, ())) (.one (.exit 0) ⟨[], 133, [(0, ⟨27, 1, .list (.int .u64)⟩)], 1⟩ (List Int) (fun x y => (y, ()))))
noncomputable def slices_partialInsertionSortOrdered_l3_e (N : Nat) : TE := ⟨6, slices_partialInsertionSortOrdered_l3_in, slices_partialInsertionSortOrdered_l3_out, fun x => slices_partialInsertionSortOrdered_l3 N x.1 x.2.1 (x.2.2.1, x.2.2.2.1, x.2.2.2.2.1)⟩
noncomputable def slices_partialInsertionSortOrdered_A (N : Nat) : Ann := { cx := ⟨Tryd.prog, dOf [cmp_Less_E N], md⟩, fn := 136, inr := false, mm := 1, fuel := 0, tab := [(10, [0, 1, 2, 7, 8]), (28, [0, 1, 2, 7, 8, 9]), (40, [0, 1, 2, 7, 8, 10]), (37, [0, 1, 2, 7, 8]), (6, [0, 1, 2, 7, 8])], xk := slices_partialInsertionSortOrdered_xk, L := LOf [slices_partialInsertionSortOrdered_l5_e N, slices_partialInsertionSortOrdered_l14_e N, slices_partialInsertionSortOrdered_l20_e N, slices_partialInsertionSortOrdered_j18_e N, slices_partialInsertionSortOrdered_l3_e N] }
theorem slices_partialInsertionSortOrdered_l5_ok (N : Nat) : EOK (slices_partialInsertionSortOrdered_A N) (slices_partialInsertionSortOrdered_l5_e N) ((findCut 10 (Tryd.f136.body.getD .skip)).getD .skip) :=
  loop_ok (pin := slices_partialInsertionSortOrdered_l5_in) (outs := slices_partialInsertionSortOrdered_l5_out) (V := Int) (s := fun x v => slices_partialInsertionSortOrdered_l5_T N x.2.1 x.2.2.2.2.1 v) (mk := fun x v => (x.1, x.2.1, v, x.2.2.2.1, x.2.2.2.2.1, ())) (var := fun x => x.2.2.1) N rfl rfl (fun x => rfl) (fun x v R k => by kernel_rfl)
theorem slices_partialInsertionSortOrdered_l14_ok (N : Nat) : EOK (slices_partialInsertionSortOrdered_A N) (slices_partialInsertionSortOrdered_l14_e N) ((findCut 28 (Tryd.f136.body.getD .skip)).getD .skip) :=
  loop_ok (pin := slices_partialInsertionSortOrdered_l14_in) (outs := slices_partialInsertionSortOrdered_l14_out) (V := (Int × (List Int))) (s := fun x v => slices_partialInsertionSortOrdered_l14_T N v.1 v.2) (mk := fun x v => (x.1, x.2.1, x.2.2.1, x.2.2.2.1, v.1, v.2, ())) (var := fun x => (x.2.2.2.2.1, x.2.2.2.2.2.1)) N rfl rfl (fun x => rfl) (fun x v R k => by kernel_rfl)
theorem slices_partialInsertionSortOrdered_l20_ok (N : Nat) : EOK (slices_partialInsertionSortOrdered_A N) (slices_partialInsertionSortOrdered_l20_e N) ((findCut 40 (Tryd.f136.body.getD .skip)).getD .skip) :=
  loop_ok (pin := slices_partialInsertionSortOrdered_l20_in) (outs := slices_partialInsertionSortOrdered_l20_out) (V := (Int × (List Int))) (s := fun x v => slices_partialInsertionSortOrdered_l20_T N x.2.1 v.1 v.2) (mk := fun x v => (x.1, x.2.1, x.2.2.1, x.2.2.2.1, v.1, v.2, ())) (var := fun x => (x.2.2.2.2.1, x.2.2.2.2.2.1)) N rfl rfl (fun x => rfl) (fun x v R k => by kernel_rfl)
theorem slices_partialInsertionSortOrdered_j18_ok (N : Nat) : EOK (slices_partialInsertionSortOrdered_A N) (slices_partialInsertionSortOrdered_j18_e N) ((findCut 37 (Tryd.f136.body.getD .skip)).getD .skip) :=
  join_ok (pin := slices_partialInsertionSortOrdered_j18_in) (outs := slices_partialInsertionSortOrdered_j18_out) (t := fun x => slices_partialInsertionSortOrdered_j18_T N x.2.1 x.2.2.1 x.2.2.2.2.1) rfl (fun x R k => by kernel_rfl)
theorem slices_partialInsertionSortOrdered_l3_ok (N : Nat) : EOK (slices_partialInsertionSortOrdered_A N) (slices_partialInsertionSortOrdered_l3_e N) ((findCut 6 (Tryd.f136.body.getD .skip)).getD .skip) :=
  loop_ok (pin := slices_partialInsertionSortOrdered_l3_in) (outs := slices_partialInsertionSortOrdered_l3_out) (V := (Int × Int × (List Int))) (s := fun x v => slices_partialInsertionSortOrdered_l3_T N x.1 x.2.1 v.1 v.2.1 v.2.2) (mk := fun x v => (x.1, x.2.1, v.1, v.2.1, v.2.2, ())) (var := fun x => (x.2.2.1, x.2.2.2.1, x.2.2.2.2.1)) N rfl rfl (fun x => rfl) (fun x v R k => by kernel_rfl)
theorem slices_partialInsertionSortOrdered_ok (N : Nat) : FEok Tryd.prog (slices_partialInsertionSortOrdered_E N) :=
  fn_ok (A := slices_partialInsertionSortOrdered_A N) (pin := [.own 0 1, .val (.int .i64), .val (.int .i64)]) (rin := [(0, ⟨27, 1, .list (.int .u64)⟩)]) (outs := slices_partialInsertionSortOrdered_o) (t := fun x => slices_partialInsertionSortOrdered_T N x.1 x.2.1 x.2.2.1) (dok_of ⟨cmp_Less_ok N, trivial⟩) mixed Tryd.func136 (by kernel_rfl) (tok_fn ⟨(tok_of rfl (by kernel_rfl) ⟨slices_partialInsertionSortOrdered_l5_ok N, ⟨slices_partialInsertionSortOrdered_l14_ok N, ⟨slices_partialInsertionSortOrdered_l20_ok N, ⟨slices_partialInsertionSortOrdered_j18_ok N, ⟨slices_partialInsertionSortOrdered_l3_ok N, trivial⟩⟩⟩⟩⟩), lok_none (by kernel_rfl)⟩) false (fun x => by kernel_rfl)
noncomputable def slices_partitionEqualOrdered_o : FOuts (Pat.teleL [.own 0 1, .val (.int .i64), .val (.int .i64), .val (.int .i64)] (MPat.tele [(0, ⟨27, 1, .list (.int .u64)⟩)] Unit)) := (.one false (.val (.int .i64)) [(0, ⟨27, 1, .list (.int .u64)⟩)] (Int × (List Int)) (fun x y => (y.1, y.2, ())))
noncomputable def slices_partitionEqualOrdered_E (N : Nat) : FE := ⟨138, 1, [.own 0 1, .val (.int .i64), .val (.int .i64), .val (.int .i64)], [(0, ⟨27, 1, .list (.int .u64)⟩)], slices_partitionEqualOrdered_o, fun x => slices_partitionEqualOrdered N x.1 x.2.1 x.2.2.1 x.2.2.2.1⟩
noncomputable def slices_partitionEqualOrdered_xk : Nat → Exit → List Nat
  | 6, .exit 2 => [0, 1, 9, 10]
  | 6, .normal => [0, 1, 9, 10]
  | 10, .exit 4 => [0, 1, 9, 10]
  | 10, .normal => [0, 1, 9, 10]
  | 20006, .exit 0 => [9]
  | 20006, .normal => [0, 1, 9, 10]
  | _, _ => []
noncomputable def slices_partitionEqualOrdered_l3_in : SPat := ⟨[(0, .own 0 1), (0, .val (.int .i64)), (7, .val (.int .i64)), (0, .val (.int .i64))], 73, [(0, ⟨27, 1, .list (.int .u64)⟩)], 1⟩
noncomputable def slices_partitionEqualOrdered_l3_out : Outs slices_partitionEqualOrdered_l3_in.X := (.one (.exit 2) ⟨[(0, .own 0 1), (0, .val (.int .i64)), (7, .val (.int .i64)), (0, .val (.int .i64))], 73, [(0, ⟨27, 1, .list (.int .u64)⟩)], 1⟩ Int (fun x y => (x.1, y, x.2.2.1, x.2.2.2.1, ())))
noncomputable def slices_partitionEqualOrdered_l3_e (N : Nat) : TE := ⟨6, slices_partitionEqualOrdered_l3_in, slices_partitionEqualOrdered_l3_out, fun x => slices_partitionEqualOrdered_l3 N x.1 x.2.2.1 x.2.2.2.1 x.2.1⟩
noncomputable def slices_partitionEqualOrdered_l5_in : SPat := ⟨[(0, .own 0 1), (0, .val (.int .i64)), (7, .val (.int .i64)), (0, .val (.int .i64))], 73, [(0, ⟨27, 1, .list (.int .u64)⟩)], 1⟩
noncomputable def slices_partitionEqualOrdered_l5_out : Outs slices_partitionEqualOrdered_l5_in.X := (.one (.exit 4) ⟨[(0, .own 0 1), (0, .val (.int .i64)), (7, .val (.int .i64)), (0, .val (.int .i64))], 73, [(0, ⟨27, 1, .list (.int .u64)⟩)], 1⟩ Int (fun x y => (x.1, x.2.1, y, x.2.2.2.1, ())))
noncomputable def slices_partitionEqualOrdered_l5_e (N : Nat) : TE := ⟨10, slices_partitionEqualOrdered_l5_in, slices_partitionEqualOrdered_l5_out, fun x => slices_partitionEqualOrdered_l5 N x.1 x.2.1 x.2.2.2.1 x.2.2.1⟩
noncomputable def slices_partitionEqualOrdered_l10003_in : SPat := ⟨[(0, .own 0 1), (0, .val (.int .i64)), (7, .val (.int .i64)), (0, .val (.int .i64))], 73, [(0, ⟨27, 1, .list (.int .u64)⟩)], 1⟩
noncomputable def slices_partitionEqualOrdered_l10003_out : Outs slices_partitionEqualOrdered_l10003_in.X := (.one (.exit 0) ⟨[(9, .val (.int .i64))], 74, [(0, ⟨27, 1, .list (.int .u64)⟩)], 1⟩ (Int × (List Int)) (fun x y => (y.1, y.2, ())))
noncomputable def slices_partitionEqualOrdered_l10003_e (N : Nat) : TE := ⟨20006, slices_partitionEqualOrdered_l10003_in, slices_partitionEqualOrdered_l10003_out, fun x => slices_partitionEqualOrdered_l10003 N x.1 (x.2.1, x.2.2.1, x.2.2.2.1)⟩
noncomputable def slices_partitionEqualOrdered_A (N : Nat) : Ann := { cx := ⟨Tryd.prog, dOf [cmp_Less_E N], md⟩, fn := 138, inr := false, mm := 1, fuel := 0, tab := [(6, [0, 1, 9, 10]), (10, [0, 1, 9, 10]), (20006, [0, 1, 9, 10])], xk := slices_partitionEqualOrdered_xk, L := LOf [slices_partitionEqualOrdered_l3_e N, slices_partitionEqualOrdered_l5_e N, slices_partitionEqualOrdered_l10003_e N] }
theorem slices_partitionEqualOrdered_l3_ok (N : Nat) : EOK (slices_partitionEqualOrdered_A N) (slices_partitionEqualOrdered_l3_e N) ((findCut 6 (Tryd.f138.body.getD .skip)).getD .skip) :=
  loop_ok (pin := slices_partitionEqualOrdered_l3_in) (outs := slices_partitionEqualOrdered_l3_out) (V := Int) (s := fun x v => slices_partitionEqualOrdered_l3_T N x.1 x.2.2.1 x.2.2.2.1 v) (mk := fun x v => (x.1, v, x.2.2.1, x.2.2.2.1, ())) (var := fun x => x.2.1) N rfl rfl (fun x => rfl) (fun x v R k => by kernel_rfl)
theorem slices_partitionEqualOrdered_l5_ok (N : Nat) : EOK (slices_partitionEqualOrdered_A N) (slices_partitionEqualOrdered_l5_e N) ((findCut 10 (Tryd.f138.body.getD .skip)).getD .skip) :=
  loop_ok (pin := slices_partitionEqualOrdered_l5_in) (outs := slices_partitionEqualOrdered_l5_out) (V := Int) (s := fun x v => slices_partitionEqualOrdered_l5_T N x.1 x.2.1 x.2.2.2.1 v) (mk := fun x v => (x.1, x.2.1, v, x.2.2.2.1, ())) (var := fun x => x.2.2.1) N rfl rfl (fun x => rfl) (fun x v R k => by kernel_rfl)
theorem slices_partitionEqualOrdered_l10003_ok (N : Nat) : EOK (slices_partitionEqualOrdered_A N) (slices_partitionEqualOrdered_l10003_e N) ((findCut 20006 (Tryd.f138.body.getD .skip)).getD .skip) :=
  loop_ok (pin := slices_partitionEqualOrdered_l10003_in) (outs := slices_partitionEqualOrdered_l10003_out) (V := (Int × Int × (List Int))) (s := fun x v => slices_partitionEqualOrdered_l10003_T N x.1 v.1 v.2.1 v.2.2) (mk := fun x v => (x.1, v.1, v.2.1, v.2.2, ())) (var := fun x => (x.2.1, x.2.2.1, x.2.2.2.1)) N rfl rfl (fun x => rfl) (fun x v R k => by kernel_rfl)
theorem slices_partitionEqualOrdered_ok (N : Nat) : FEok Tryd.prog (slices_partitionEqualOrdered_E N) :=
  fn_ok (A := slices_partitionEqualOrdered_A N) (pin := [.own 0 1, .val (.int .i64), .val (.int .i64), .val (.int .i64)]) (rin := [(0, ⟨27, 1, .list (.int .u64)⟩)]) (outs := slices_partitionEqualOrdered_o) (t := fun x => slices_partitionEqualOrdered_T N x.1 x.2.1 x.2.2.1 x.2.2.2.1) (dok_of ⟨cmp_Less_ok N, trivial⟩) mixed Tryd.func138 (by kernel_rfl) (tok_fn ⟨(tok_of rfl (by kernel_rfl) ⟨slices_partitionEqualOrdered_l3_ok N, ⟨slices_partitionEqualOrdered_l5_ok N, ⟨slices_partitionEqualOrdered_l10003_ok N, trivial⟩⟩⟩), lok_none (by kernel_rfl)⟩) false (fun x => by kernel_rfl)
noncomputable def slices_partitionOrdered_o : FOuts (Pat.teleL [.own 0 1, .val (.int .i64), .val (.int .i64), .val (.int .i64)] (MPat.tele [(0, ⟨27, 1, .list (.int .u64)⟩)] Unit)) := (.one false (.tup [.val (.int .i64), .val .bool]) [(0, ⟨27, 1, .list (.int .u64)⟩)] (Int × Bool × (List Int)) (fun x y => (y.1, y.2.1, y.2.2, ())))
noncomputable def slices_partitionOrdered_E (N : Nat) : FE := ⟨139, 1, [.own 0 1, .val (.int .i64), .val (.int .i64), .val (.int .i64)], [(0, ⟨27, 1, .list (.int .u64)⟩)], slices_partitionOrdered_o, fun x => slices_partitionOrdered N x.1 x.2.1 x.2.2.1 x.2.2.2.1⟩
noncomputable def slices_partitionOrdered_xk : Nat → Exit → List Nat
  | 6, .exit 0 => [0, 1, 10, 11]
  | 6, .normal => [0, 1, 10, 11]
  | 10, .exit 2 => [0, 1, 10, 11]
  | 10, .normal => [0, 1, 10, 11]
  | 26, .exit 6 => [0, 1, 10, 11]
  | 26, .normal => [0, 1, 10, 11]
  | 30, .exit 8 => [0, 1, 10, 11]
  | 30, .normal => [0, 1, 10, 11]
  | 20026, .exit 4 => [0, 1, 11]
  | 20026, .normal => [0, 1, 10, 11]
  | _, _ => []
noncomputable def slices_partitionOrdered_l3_in : SPat := ⟨[(0, .own 0 1), (0, .val (.int .i64)), (8, .val (.int .i64)), (0, .val (.int .i64))], 156, [(0, ⟨27, 1, .list (.int .u64)⟩)], 1⟩
noncomputable def slices_partitionOrdered_l3_out : Outs slices_partitionOrdered_l3_in.X := (.one (.exit 0) ⟨[(0, .own 0 1), (0, .val (.int .i64)), (8, .val (.int .i64)), (0, .val (.int .i64))], 156, [(0, ⟨27, 1, .list (.int .u64)⟩)], 1⟩ Int (fun x y => (x.1, y, x.2.2.1, x.2.2.2.1, ())))
noncomputable def slices_partitionOrdered_l3_e (N : Nat) : TE := ⟨6, slices_partitionOrdered_l3_in, slices_partitionOrdered_l3_out, fun x => slices_partitionOrdered_l3 N x.1 x.2.2.1 x.2.2.2.1 x.2.1⟩
noncomputable def slices_partitionOrdered_l5_in : SPat := ⟨[(0, .own 0 1), (0, .val (.int .i64)), (8, .val (.int .i64)), (0, .val (.int .i64))], 156, [(0, ⟨27, 1, .list (.int .u64)⟩)], 1⟩
noncomputable def slices_partitionOrdered_l5_out : Outs slices_partitionOrdered_l5_in.X := (.one (.exit 2) ⟨[(0, .own 0 1), (0, .val (.int .i64)), (8, .val (.int .i64)), (0, .val (.int .i64))], 156, [(0, ⟨27, 1, .list (.int .u64)⟩)], 1⟩ Int (fun x y => (x.1, x.2.1, y, x.2.2.2.1, ())))
noncomputable def slices_partitionOrdered_l5_e (N : Nat) : TE := ⟨10, slices_partitionOrdered_l5_in, slices_partitionOrdered_l5_out, fun x => slices_partitionOrdered_l5 N x.1 x.2.1 x.2.2.2.1 x.2.2.1⟩
noncomputable def slices_partitionOrdered_l13_in : SPat := ⟨[(0, .own 0 1), (0, .val (.int .i64)), (8, .val (.int .i64)), (0, .val (.int .i64))], 156, [(0, ⟨27, 1, .list (.int .u64)⟩)], 1⟩
noncomputable def slices_partitionOrdered_l13_out : Outs slices_partitionOrdered_l13_in.X := (.one (.exit 6) ⟨[(0, .own 0 1), (0, .val (.int .i64)), (8, .val (.int .i64)), (0, .val (.int .i64))], 156, [(0, ⟨27, 1, .list (.int .u64)⟩)], 1⟩ Int (fun x y => (x.1, y, x.2.2.1, x.2.2.2.1, ())))
noncomputable def slices_partitionOrdered_l13_e (N : Nat) : TE := ⟨26, slices_partitionOrdered_l13_in, slices_partitionOrdered_l13_out, fun x => slices_partitionOrdered_l13 N x.1 x.2.2.1 x.2.2.2.1 x.2.1⟩
noncomputable def slices_partitionOrdered_l15_in : SPat := ⟨[(0, .own 0 1), (0, .val (.int .i64)), (8, .val (.int .i64)), (0, .val (.int .i64))], 156, [(0, ⟨27, 1, .list (.int .u64)⟩)], 1⟩
noncomputable def slices_partitionOrdered_l15_out : Outs slices_partitionOrdered_l15_in.X := (.one (.exit 8) ⟨[(0, .own 0 1), (0, .val (.int .i64)), (8, .val (.int .i64)), (0, .val (.int .i64))], 156, [(0, ⟨27, 1, .list (.int .u64)⟩)], 1⟩ Int (fun x y => (x.1, x.2.1, y, x.2.2.2.1, ())))
noncomputable def slices_partitionOrdered_l15_e (N : Nat) : TE := ⟨30, slices_partitionOrdered_l15_in, slices_partitionOrdered_l15_out, fun x => slices_partitionOrdered_l15 N x.1 x.2.1 x.2.2.2.1 x.2.2.1⟩
noncomputable def slices_partitionOrdered_l10013_in : SPat := ⟨[(0, .own 0 1), (0, .val (.int .i64)), (8, .val (.int .i64)), (0, .val (.int .i64))], 156, [(0, ⟨27, 1, .list (.int .u64)⟩)], 1⟩
noncomputable def slices_partitionOrdered_l10013_out : Outs slices_partitionOrdered_l10013_in.X := (.one (.exit 4) ⟨[(0, .own 0 1), (0, .val (.int .i64)), (9, .val (.int .i64))], 156, [(0, ⟨27, 1, .list (.int .u64)⟩)], 1⟩ (Int × (List Int)) (fun x y => (x.1, y.1, y.2, ())))
noncomputable def slices_partitionOrdered_l10013_e (N : Nat) : TE := ⟨20026, slices_partitionOrdered_l10013_in, slices_partitionOrdered_l10013_out, fun x => slices_partitionOrdered_l10013 N x.1 (x.2.1, x.2.2.1, x.2.2.2.1)⟩
noncomputable def slices_partitionOrdered_A (N : Nat) : Ann := { cx := ⟨Tryd.prog, dOf [cmp_Less_E N], md⟩, fn := 139, inr := false, mm := 1, fuel := 0, tab := [(6, [0, 1, 10, 11]), (10, [0, 1, 10, 11]), (26, [0, 1, 10, 11]), (30, [0, 1, 10, 11]), (20026, [0, 1, 10, 11])], xk := slices_partitionOrdered_xk, L := LOf [slices_partitionOrdered_l3_e N, slices_partitionOrdered_l5_e N, slices_partitionOrdered_l13_e N, slices_partitionOrdered_l15_e N, slices_partitionOrdered_l10013_e N] }
theorem slices_partitionOrdered_l3_ok (N : Nat) : EOK (slices_partitionOrdered_A N) (slices_partitionOrdered_l3_e N) ((findCut 6 (Tryd.f139.body.getD .skip)).getD .skip) :=
  loop_ok (pin := slices_partitionOrdered_l3_in) (outs := slices_partitionOrdered_l3_out) (V := Int) (s := fun x v => slices_partitionOrdered_l3_T N x.1 x.2.2.1 x.2.2.2.1 v) (mk := fun x v => (x.1, v, x.2.2.1, x.2.2.2.1, ())) (var := fun x => x.2.1) N rfl rfl (fun x => rfl) (fun x v R k => by kernel_rfl)
theorem slices_partitionOrdered_l5_ok (N : Nat) : EOK (slices_partitionOrdered_A N) (slices_partitionOrdered_l5_e N) ((findCut 10 (Tryd.f139.body.getD .skip)).getD .skip) :=
  loop_ok (pin := slices_partitionOrdered_l5_in) (outs := slices_partitionOrdered_l5_out) (V := Int) (s := fun x v => slices_partitionOrdered_l5_T N x.1 x.2.1 x.2.2.2.1 v) (mk := fun x v => (x.1, x.2.1, v, x.2.2.2.1, ())) (var := fun x => x.2.2.1) N rfl rfl (fun x => rfl) (fun x v R k => by kernel_rfl)
theorem slices_partitionOrdered_l13_ok (N : Nat) : EOK (slices_partitionOrdered_A N) (slices_partitionOrdered_l13_e N) ((findCut 26 (Tryd.f139.body.getD .skip)).getD .skip) :=
  loop_ok (pin := slices_partitionOrdered_l13_in) (outs := slices_partitionOrdered_l13_out) (V := Int) (s := fun x v => slices_partitionOrdered_l13_T N x.1 x.2.2.1 x.2.2.2.1 v) (mk := fun x v => (x.1, v, x.2.2.1, x.2.2.2.1, ())) (var := fun x => x.2.1) N rfl rfl (fun x => rfl) (fun x v R k => by kernel_rfl)
theorem slices_partitionOrdered_l15_ok (N : Nat) : EOK (slices_partitionOrdered_A N) (slices_partitionOrdered_l15_e N) ((findCut 30 (Tryd.f139.body.getD .skip)).getD .skip) :=
  loop_ok (pin := slices_partitionOrdered_l15_in) (outs := slices_partitionOrdered_l15_out) (V := Int) (s := fun x v => slices_partitionOrdered_l15_T N x.1 x.2.1 x.2.2.2.1 v) (mk := fun x v => (x.1, x.2.1, v, x.2.2.2.1, ())) (var := fun x => x.2.2.1) N rfl rfl (fun x => rfl) (fun x v R k => by kernel_rfl)
theorem slices_partitionOrdered_l10013_ok (N : Nat) : EOK (slices_partitionOrdered_A N) (slices_partitionOrdered_l10013_e N) ((findCut 20026 (Tryd.f139.body.getD .skip)).getD .skip) :=
  loop_ok (pin := slices_partitionOrdered_l10013_in) (outs := slices_partitionOrdered_l10013_out) (V := (Int × Int × (List Int))) (s := fun x v => slices_partitionOrdered_l10013_T N x.1 v.1 v.2.1 v.2.2) (mk := fun x v => (x.1, v.1, v.2.1, v.2.2, ())) (var := fun x => (x.2.1, x.2.2.1, x.2.2.2.1)) N rfl rfl (fun x => rfl) (fun x v R k => by kernel_rfl)
theorem slices_partitionOrdered_ok (N : Nat) : FEok Tryd.prog (slices_partitionOrdered_E N) :=
  fn_ok (A := slices_partitionOrdered_A N) (pin := [.own 0 1, .val (.int .i64), .val (.int .i64), .val (.int .i64)]) (rin := [(0, ⟨27, 1, .list (.int .u64)⟩)]) (outs := slices_partitionOrdered_o) (t := fun x => slices_partitionOrdered_T N x.1 x.2.1 x.2.2.1 x.2.2.2.1) (dok_of ⟨cmp_Less_ok N, trivial⟩) mixed Tryd.func139 (by kernel_rfl) (tok_fn ⟨(tok_of rfl (by kernel_rfl) ⟨slices_partitionOrdered_l3_ok N, ⟨slices_partitionOrdered_l5_ok N, ⟨slices_partitionOrdered_l13_ok N, ⟨slices_partitionOrdered_l15_ok N, ⟨slices_partitionOrdered_l10013_ok N, trivial⟩⟩⟩⟩⟩), lok_none (by kernel_rfl)⟩) false (fun x => by kernel_rfl)
noncomputable def slices_pdqsortOrdered_xk : Nat → Exit → List Nat
  | 37, .exit 1 => [0, 1, 2, 3, 8, 9]
  | 37, .normal => [0, 1, 2, 3, 10, 11]
  | 41, .normal => [0, 1, 2, 3, 8, 9]
  | 35, .exit 1 => [0, 1, 2, 3, 8, 9]
  | 35, .normal => [0, 1, 2, 3, 8, 9]
  | 31, .ret => []
  | 31, .exit 1 => [0, 1, 2, 3, 8, 9]
  | 31, .normal => [0, 1, 2, 3, 8, 9]
  | 21, .ret => []
  | 21, .exit 1 => [0, 1, 2, 3, 8, 9]
  | 21, .normal => [0, 1, 2, 3, 8, 9]
  | 4, .ret => []
  | 4, .normal => [0, 1, 2, 3, 8, 9]
  | _, _ => []
noncomputable def slices_pdqsortOrdered_j18_in : SPat := ⟨[(0, .own 0 1), (0, .val (.int .i64)), (0, .val (.int .i64)), (0, .val (.int .i64)), (4, .val .bool), (0, .val .bool), (0, .val (.int .i64)), (0, .val (.int .i64)), (75, .val .bool)], 46, [(0, ⟨27, 1, .list (.int .u64)⟩)], 1⟩
noncomputable def slices_pdqsortOrdered_j18_out : Outs slices_pdqsortOrdered_j18_in.X := (.or (.exit 1) ⟨[(0, .own 0 1), (0, .val (.int .i64)), (0, .val (.int .i64)), (0, .val (.int .i64)), (4, .val .bool), (0, .val .bool)], 124, [(0, ⟨27, 1, .list (.int .u64)⟩)], 1⟩ (Int × (List Int)) (fun x y => (y.1, x.2.1, x.2.2.1, x.2.2.2.1, x.2.2.2.2.1, y.2, ())) (.one (.normal) ⟨[(0, .own 0 1), (0, .val (.int .i64)), (0, .val (.int .i64)), (0, .val (.int .i64)), (6, .val (.int .i64)), (0, .val (.int .i64))], 122, [(0, ⟨27, 1, .list (.int .u64)⟩)], 1⟩ Unit (fun x y => (x.1, x.2.1, x.2.2.1, x.2.2.2.2.2.1, x.2.2.2.2.2.2.1, x.2.2.2.2.2.2.2.2.1, ()))))
noncomputable def slices_pdqsortOrdered_j18_e (N : Nat) (slices_pdqsortOrdered_r : Int → Int → Int → (List Int) → Option (List Int)) : TE := ⟨37, slices_pdqsortOrdered_j18_in, slices_pdqsortOrdered_j18_out, fun x => slices_pdqsortOrdered_j18 N slices_pdqsortOrdered_r x.1 x.2.1 x.2.2.2.2.2.2.1 x.2.2.2.2.2.2.2.1 x.2.2.2.2.2.2.2.2.1⟩
noncomputable def slices_pdqsortOrdered_j20_in : SPat := ⟨[(0, .own 0 1), (0, .val (.int .i64)), (0, .val (.int .i64)), (0, .val (.int .i64)), (6, .val (.int .i64)), (0, .val (.int .i64))], 122, [(0, ⟨27, 1, .list (.int .u64)⟩)], 1⟩
noncomputable def slices_pdqsortOrdered_j20_out : Outs slices_pdqsortOrdered_j20_in.X := (.one (.normal) ⟨[(0, .own 0 1), (0, .val (.int .i64)), (0, .val (.int .i64)), (0, .val (.int .i64)), (4, .val .bool), (0, .val .bool)], 124, [(0, ⟨27, 1, .list (.int .u64)⟩)], 1⟩ (Int × Int × Bool × Bool × (List Int)) (fun x y => (y.1, y.2.1, x.2.2.1, y.2.2.1, y.2.2.2.1, y.2.2.2.2, ())))
noncomputable def slices_pdqsortOrdered_j20_e (N : Nat) (slices_pdqsortOrdered_r : Int → Int → Int → (List Int) → Option (List Int)) : TE := ⟨41, slices_pdqsortOrdered_j20_in, slices_pdqsortOrdered_j20_out, fun x => slices_pdqsortOrdered_j20 N slices_pdqsortOrdered_r x.1 x.2.1 x.2.2.1 x.2.2.2.1 x.2.2.2.2.1 x.2.2.2.2.2.1⟩
noncomputable def slices_pdqsortOrdered_j17_in : SPat := ⟨[(0, .own 0 1), (0, .val (.int .i64)), (0, .val (.int .i64)), (0, .val (.int .i64)), (4, .val .bool), (0, .val .bool), (0, .val (.int .i64)), (0, .val (.int .i64))], 122, [(0, ⟨27, 1, .list (.int .u64)⟩)], 1⟩
noncomputable def slices_pdqsortOrdered_j17_out : Outs slices_pdqsortOrdered_j17_in.X := (.or (.exit 1) ⟨[(0, .own 0 1), (0, .val (.int .i64)), (0, .val (.int .i64)), (0, .val (.int .i64)), (4, .val .bool), (0, .val .bool)], 124, [(0, ⟨27, 1, .list (.int .u64)⟩)], 1⟩ (Int × (List Int)) (fun x y => (y.1, x.2.1, x.2.2.1, x.2.2.2.1, x.2.2.2.2.1, y.2, ())) (.one (.normal) ⟨[(0, .own 0 1), (0, .val (.int .i64)), (0, .val (.int .i64)), (0, .val (.int .i64)), (4, .val .bool), (0, .val .bool)], 124, [(0, ⟨27, 1, .list (.int .u64)⟩)], 1⟩ (Int × Int × Bool × Bool × (List Int)) (fun x y => (y.1, y.2.1, x.2.2.1, y.2.2.1, y.2.2.2.1, y.2.2.2.2, ()))))
noncomputable def slices_pdqsortOrdered_j17_e (N : Nat) (slices_pdqsortOrdered_r : Int → Int → Int → (List Int) → Option (List Int)) : TE := ⟨35, slices_pdqsortOrdered_j17_in, slices_pdqsortOrdered_j17_out, fun x => slices_pdqsortOrdered_j17 N slices_pdqsortOrdered_r x.1 x.2.1 x.2.2.1 x.2.2.2.2.2.1 x.2.2.2.2.2.2.1 x.2.2.2.2.2.2.2.1⟩
noncomputable def slices_pdqsortOrdered_j15_in : SPat := ⟨[(0, .own 0 1), (0, .val (.int .i64)), (0, .val (.int .i64)), (0, .val (.int .i64)), (4, .val .bool), (0, .val .bool), (0, .val (.int .i64)), (0, .val (.int .i64)), (0, .val (.int .i64))], 121, [(0, ⟨27, 1, .list (.int .u64)⟩)], 1⟩
noncomputable def slices_pdqsortOrdered_j15_out : Outs slices_pdqsortOrdered_j15_in.X := (.or (.ret) ⟨[], 134, [(0, ⟨27, 1, .list (.int .u64)⟩)], 1⟩ (List Int) (fun x y => (y, ())) (.or (.exit 1) ⟨[(0, .own 0 1), (0, .val (.int .i64)), (0, .val (.int .i64)), (0, .val (.int .i64)), (4, .val .bool), (0, .val .bool)], 124, [(0, ⟨27, 1, .list (.int .u64)⟩)], 1⟩ (Int × (List Int)) (fun x y => (y.1, x.2.1, x.2.2.1, x.2.2.2.1, x.2.2.2.2.1, y.2, ())) (.one (.normal) ⟨[(0, .own 0 1), (0, .val (.int .i64)), (0, .val (.int .i64)), (0, .val (.int .i64)), (4, .val .bool), (0, .val .bool)], 124, [(0, ⟨27, 1, .list (.int .u64)⟩)], 1⟩ (Int × Int × Bool × Bool × (List Int)) (fun x y => (y.1, y.2.1, x.2.2.1, y.2.2.1, y.2.2.2.1, y.2.2.2.2, ())))))
noncomputable def slices_pdqsortOrdered_j15_e (N : Nat) (slices_pdqsortOrdered_r : Int → Int → Int → (List Int) → Option (List Int)) : TE := ⟨31, slices_pdqsortOrdered_j15_in, slices_pdqsortOrdered_j15_out, fun x => slices_pdqsortOrdered_j15 N slices_pdqsortOrdered_r x.1 x.2.1 x.2.2.1 x.2.2.2.1 x.2.2.2.2.1 x.2.2.2.2.2.1 x.2.2.2.2.2.2.1 x.2.2.2.2.2.2.2.1 x.2.2.2.2.2.2.2.2.1⟩
noncomputable def slices_pdqsortOrdered_j10_in : SPat := ⟨[(0, .own 0 1), (0, .val (.int .i64)), (0, .val (.int .i64)), (0, .val (.int .i64)), (4, .val .bool), (0, .val .bool), (0, .val (.int .i64))], 123, [(0, ⟨27, 1, .list (.int .u64)⟩)], 1⟩
noncomputable def slices_pdqsortOrdered_j10_out : Outs slices_pdqsortOrdered_j10_in.X := (.or (.ret) ⟨[], 134, [(0, ⟨27, 1, .list (.int .u64)⟩)], 1⟩ (List Int) (fun x y => (y, ())) (.or (.exit 1) ⟨[(0, .own 0 1), (0, .val (.int .i64)), (0, .val (.int .i64)), (0, .val (.int .i64)), (4, .val .bool), (0, .val .bool)], 124, [(0, ⟨27, 1, .list (.int .u64)⟩)], 1⟩ (Int × (List Int)) (fun x y => (y.1, x.2.1, x.2.2.1, x.2.2.2.1, x.2.2.2.2.1, y.2, ())) (.one (.normal) ⟨[(0, .own 0 1), (0, .val (.int .i64)), (0, .val (.int .i64)), (0, .val (.int .i64)), (4, .val .bool), (0, .val .bool)], 124, [(0, ⟨27, 1, .list (.int .u64)⟩)], 1⟩ (Int × Int × Bool × Bool × (List Int)) (fun x y => (y.1, y.2.1, x.2.2.1, y.2.2.1, y.2.2.2.1, y.2.2.2.2, ())))))
noncomputable def slices_pdqsortOrdered_j10_e (N : Nat) (slices_pdqsortOrdered_r : Int → Int → Int → (List Int) → Option (List Int)) : TE := ⟨21, slices_pdqsortOrdered_j10_in, slices_pdqsortOrdered_j10_out, fun x => slices_pdqsortOrdered_j10 N slices_pdqsortOrdered_r x.1 x.2.1 x.2.2.1 x.2.2.2.1 x.2.2.2.2.1 x.2.2.2.2.2.1 x.2.2.2.2.2.2.1⟩
noncomputable def slices_pdqsortOrdered_l2_in : SPat := ⟨[(0, .own 0 1), (0, .val (.int .i64)), (0, .val (.int .i64)), (0, .val (.int .i64)), (4, .val .bool), (0, .val .bool)], 124, [(0, ⟨27, 1, .list (.int .u64)⟩)], 1⟩
noncomputable def slices_pdqsortOrdered_l2_out : Outs slices_pdqsortOrdered_l2_in.X := (.one (.ret) ⟨[], 134, [(0, ⟨27, 1, .list (.int .u64)⟩)], 1⟩ (List Int) (fun x y => (y, ())))
noncomputable def slices_pdqsortOrdered_l2_e (N : Nat) (slices_pdqsortOrdered_r : Int → Int → Int → (List Int) → Option (List Int)) : TE := ⟨4, slices_pdqsortOrdered_l2_in, slices_pdqsortOrdered_l2_out, fun x => slices_pdqsortOrdered_l2 N slices_pdqsortOrdered_r (x.1, x.2.1, x.2.2.1, x.2.2.2.1, x.2.2.2.2.1, x.2.2.2.2.2.1)⟩
noncomputable def slices_pdqsortOrdered_A (N : Nat) (slices_pdqsortOrdered_r : Int → Int → Int → (List Int) → Option (List Int)) : Ann := { cx := ⟨Tryd.prog, dOf [slices_insertionSortOrdered_E N, slices_heapSortOrdered_E N, slices_breakPatternsOrdered_E N, slices_choosePivotOrdered_E N, slices_reverseRangeOrdered_E N, slices_partialInsertionSortOrdered_E N, cmp_Less_E N, slices_partitionEqualOrdered_E N, slices_partitionOrdered_E N, slices_pdqsortOrdered_Er slices_pdqsortOrdered_r], md⟩, fn := 109, inr := false, mm := 1, fuel := 0, tab := [(37, [0, 1, 2, 3, 8, 9, 10, 11, 87]), (41, [0, 1, 2, 3, 10, 11]), (35, [0, 1, 2, 3, 8, 9, 10, 11]), (31, [0, 1, 2, 3, 8, 9, 10, 11, 12]), (21, [0, 1, 2, 3, 8, 9, 10]), (4, [0, 1, 2, 3, 8, 9])], xk := slices_pdqsortOrdered_xk, L := LOf [slices_pdqsortOrdered_j18_e N slices_pdqsortOrdered_r, slices_pdqsortOrdered_j20_e N slices_pdqsortOrdered_r, slices_pdqsortOrdered_j17_e N slices_pdqsortOrdered_r, slices_pdqsortOrdered_j15_e N slices_pdqsortOrdered_r, slices_pdqsortOrdered_j10_e N slices_pdqsortOrdered_r, slices_pdqsortOrdered_l2_e N slices_pdqsortOrdered_r] }
theorem slices_pdqsortOrdered_j18_ok (N : Nat) (slices_pdqsortOrdered_r : Int → Int → Int → (List Int) → Option (List Int)) : EOK (slices_pdqsortOrdered_A N slices_pdqsortOrdered_r) (slices_pdqsortOrdered_j18_e N slices_pdqsortOrdered_r) ((findCut 37 (Tryd.f109.body.getD .skip)).getD .skip) :=
  join_ok (pin := slices_pdqsortOrdered_j18_in) (outs := slices_pdqsortOrdered_j18_out) (t := fun x => slices_pdqsortOrdered_j18_T N slices_pdqsortOrdered_r x.1 x.2.1 x.2.2.2.2.2.2.1 x.2.2.2.2.2.2.2.1 x.2.2.2.2.2.2.2.2.1) rfl (fun x R k => by kernel_rfl)
theorem slices_pdqsortOrdered_j20_ok (N : Nat) (slices_pdqsortOrdered_r : Int → Int → Int → (List Int) → Option (List Int)) : EOK (slices_pdqsortOrdered_A N slices_pdqsortOrdered_r) (slices_pdqsortOrdered_j20_e N slices_pdqsortOrdered_r) ((findCut 41 (Tryd.f109.body.getD .skip)).getD .skip) :=
  join_ok (pin := slices_pdqsortOrdered_j20_in) (outs := slices_pdqsortOrdered_j20_out) (t := fun x => slices_pdqsortOrdered_j20_T N slices_pdqsortOrdered_r x.1 x.2.1 x.2.2.1 x.2.2.2.1 x.2.2.2.2.1 x.2.2.2.2.2.1) rfl (fun x R k => by kernel_rfl)
theorem slices_pdqsortOrdered_j17_ok (N : Nat) (slices_pdqsortOrdered_r : Int → Int → Int → (List Int) → Option (List Int)) : EOK (slices_pdqsortOrdered_A N slices_pdqsortOrdered_r) (slices_pdqsortOrdered_j17_e N slices_pdqsortOrdered_r) ((findCut 35 (Tryd.f109.body.getD .skip)).getD .skip) :=
  join_ok (pin := slices_pdqsortOrdered_j17_in) (outs := slices_pdqsortOrdered_j17_out) (t := fun x => slices_pdqsortOrdered_j17_T N slices_pdqsortOrdered_r x.1 x.2.1 x.2.2.1 x.2.2.2.2.2.1 x.2.2.2.2.2.2.1 x.2.2.2.2.2.2.2.1) rfl (fun x R k => by kernel_rfl)
theorem slices_pdqsortOrdered_j15_ok (N : Nat) (slices_pdqsortOrdered_r : Int → Int → Int → (List Int) → Option (List Int)) : EOK (slices_pdqsortOrdered_A N slices_pdqsortOrdered_r) (slices_pdqsortOrdered_j15_e N slices_pdqsortOrdered_r) ((findCut 31 (Tryd.f109.body.getD .skip)).getD .skip) :=
  join_ok (pin := slices_pdqsortOrdered_j15_in) (outs := slices_pdqsortOrdered_j15_out) (t := fun x => slices_pdqsortOrdered_j15_T N slices_pdqsortOrdered_r x.1 x.2.1 x.2.2.1 x.2.2.2.1 x.2.2.2.2.1 x.2.2.2.2.2.1 x.2.2.2.2.2.2.1 x.2.2.2.2.2.2.2.1 x.2.2.2.2.2.2.2.2.1) rfl (fun x R k => by kernel_rfl)
theorem slices_pdqsortOrdered_j10_ok (N : Nat) (slices_pdqsortOrdered_r : Int → Int → Int → (List Int) → Option (List Int)) : EOK (slices_pdqsortOrdered_A N slices_pdqsortOrdered_r) (slices_pdqsortOrdered_j10_e N slices_pdqsortOrdered_r) ((findCut 21 (Tryd.f109.body.getD .skip)).getD .skip) :=
  join_ok (pin := slices_pdqsortOrdered_j10_in) (outs := slices_pdqsortOrdered_j10_out) (t := fun x => slices_pdqsortOrdered_j10_T N slices_pdqsortOrdered_r x.1 x.2.1 x.2.2.1 x.2.2.2.1 x.2.2.2.2.1 x.2.2.2.2.2.1 x.2.2.2.2.2.2.1) rfl (fun x R k => by kernel_rfl)
theorem slices_pdqsortOrdered_l2_ok (N : Nat) (slices_pdqsortOrdered_r : Int → Int → Int → (List Int) → Option (List Int)) : EOK (slices_pdqsortOrdered_A N slices_pdqsortOrdered_r) (slices_pdqsortOrdered_l2_e N slices_pdqsortOrdered_r) ((findCut 4 (Tryd.f109.body.getD .skip)).getD .skip) :=
  loop_ok (pin := slices_pdqsortOrdered_l2_in) (outs := slices_pdqsortOrdered_l2_out) (V := (Int × Int × Int × Bool × Bool × (List Int))) (s := fun x v => slices_pdqsortOrdered_l2_T N slices_pdqsortOrdered_r v.1 v.2.1 v.2.2.1 v.2.2.2.1 v.2.2.2.2.1 v.2.2.2.2.2) (mk := fun x v => (v.1, v.2.1, v.2.2.1, v.2.2.2.1, v.2.2.2.2.1, v.2.2.2.2.2, ())) (var := fun x => (x.1, x.2.1, x.2.2.1, x.2.2.2.1, x.2.2.2.2.1, x.2.2.2.2.2.1)) N rfl rfl (fun x => rfl) (fun x v R k => by kernel_rfl)
theorem slices_pdqsortOrdered_step (N : Nat) (slices_pdqsortOrdered_r : Int → Int → Int → (List Int) → Option (List Int)) (slices_pdqsortOrdered_h : FEok Tryd.prog (slices_pdqsortOrdered_Er slices_pdqsortOrdered_r)) : FEok Tryd.prog (slices_pdqsortOrdered_Er (fun a0 a1 a2 a3 => (slices_pdqsortOrdered_T N slices_pdqsortOrdered_r a0 a1 a2 a3).run some)) :=
  fn_ok (A := slices_pdqsortOrdered_A N slices_pdqsortOrdered_r) (pin := [.own 0 1, .val (.int .i64), .val (.int .i64), .val (.int .i64)]) (rin := [(0, ⟨27, 1, .list (.int .u64)⟩)]) (outs := slices_pdqsortOrdered_o) (t := fun x => slices_pdqsortOrdered_T N slices_pdqsortOrdered_r x.1 x.2.1 x.2.2.1 x.2.2.2.1) (dok_of ⟨slices_insertionSortOrdered_ok N, ⟨slices_heapSortOrdered_ok N, ⟨slices_breakPatternsOrdered_ok N, ⟨slices_choosePivotOrdered_ok N, ⟨slices_reverseRangeOrdered_ok N, ⟨slices_partialInsertionSortOrdered_ok N, ⟨cmp_Less_ok N, ⟨slices_partitionEqualOrdered_ok N, ⟨slices_partitionOrdered_ok N, ⟨slices_pdqsortOrdered_h, trivial⟩⟩⟩⟩⟩⟩⟩⟩⟩⟩) mixed Tryd.func109 (by kernel_rfl) (tok_fn ⟨(tok_of rfl (by kernel_rfl) ⟨slices_pdqsortOrdered_j18_ok N slices_pdqsortOrdered_r, ⟨slices_pdqsortOrdered_j20_ok N slices_pdqsortOrdered_r, ⟨slices_pdqsortOrdered_j17_ok N slices_pdqsortOrdered_r, ⟨slices_pdqsortOrdered_j15_ok N slices_pdqsortOrdered_r, ⟨slices_pdqsortOrdered_j10_ok N slices_pdqsortOrdered_r, ⟨slices_pdqsortOrdered_l2_ok N slices_pdqsortOrdered_r, trivial⟩⟩⟩⟩⟩⟩), lok_none (by kernel_rfl)⟩) false (fun x => by kernel_rfl)
theorem slices_pdqsortOrdered_Rok (N : Nat) : ∀ k, FEok Tryd.prog (slices_pdqsortOrdered_Er (slices_pdqsortOrdered_R N k))
  | 0 => ⟨fun _ => enters_run Tryd.func109 (by kernel_rfl), fun x y h => by cases h⟩
  | k + 1 => slices_pdqsortOrdered_step N (slices_pdqsortOrdered_R N k) (slices_pdqsortOrdered_Rok N k)
theorem slices_pdqsortOrdered_ok (N : Nat) : FEok Tryd.prog (slices_pdqsortOrdered_E N) := slices_pdqsortOrdered_Rok N N
noncomputable def slices_Sort_o : FOuts (Pat.teleL [.own 0 1] (MPat.tele [(0, ⟨27, 1, .list (.int .u64)⟩)] Unit)) := (.one false (.tup []) [(0, ⟨27, 1, .list (.int .u64)⟩)] (List Int) (fun x y => (y, ())))
noncomputable def slices_Sort_E (N : Nat) : FE := ⟨80, 1, [.own 0 1], [(0, ⟨27, 1, .list (.int .u64)⟩)], slices_Sort_o, fun x => slices_Sort N x.1⟩
noncomputable def slices_Sort_A (N : Nat) : Ann := { cx := ⟨Tryd.prog, dOf [bits_Len_E N, slices_pdqsortOrdered_E N], md⟩, fn := 80, inr := false, mm := 1, fuel := 0, tab := [], xk := fun _ _ => [], L := LOf [] }
theorem slices_Sort_ok (N : Nat) : FEok Tryd.prog (slices_Sort_E N) :=
  fn_ok (A := slices_Sort_A N) (pin := [.own 0 1]) (rin := [(0, ⟨27, 1, .list (.int .u64)⟩)]) (outs := slices_Sort_o) (t := fun x => slices_Sort_T N x.1) (dok_of ⟨bits_Len_ok N, ⟨slices_pdqsortOrdered_ok N, trivial⟩⟩) mixed Tryd.func80 (by kernel_rfl) (tok_fn ⟨(tok_of rfl (by kernel_rfl) trivial), lok_none (by kernel_rfl)⟩) false (fun x => by kernel_rfl)
noncomputable def anf_made_o : FOuts (Pat.teleL [.val (.list (.int .u64))] (MPat.tele [] Unit)) := (.one false (.sl 0 1) [(0, ⟨27, 1, .list (.int .u64)⟩)] (Nat × (List Int)) (fun x y => (0, y.1, y.2, ())))
noncomputable def anf_made_E (N : Nat) : FE := ⟨49, 0, [.val (.list (.int .u64))], [], anf_made_o, fun x => anf_made N x.1⟩
noncomputable def anf_made_xk : Nat → Exit → List Nat
  | 14, .exit 2 => [0, 3, 4, 5]
  | 14, .normal => [0, 3, 4, 5]
  | 10, .exit 0 => [0, 3]
  | 10, .normal => [0, 3, 4]
  | _, _ => []
noncomputable def anf_made_l7_in : SPat := ⟨[(0, .own 0 1), (2, .val (.int .i64)), (0, .val (.int .i64)), (0, .val (.int .i64))], 44, [(0, ⟨27, 1, .list (.int .u64)⟩)], 1⟩
noncomputable def anf_made_l7_out : Outs anf_made_l7_in.X := (.one (.exit 2) ⟨[(0, .own 0 1), (2, .val (.int .i64)), (0, .val (.int .i64)), (0, .val (.int .i64))], 44, [(0, ⟨27, 1, .list (.int .u64)⟩)], 1⟩ Int (fun x y => (x.1, x.2.1, y, x.2.2.2.1, ())))
noncomputable def anf_made_l7_e (N : Nat) : TE := ⟨14, anf_made_l7_in, anf_made_l7_out, fun x => anf_made_l7 N x.2.1 x.2.2.2.1 x.2.2.1⟩
noncomputable def anf_made_l5_in : SPat := ⟨[(0, .own 0 1), (2, .val (.int .i64)), (0, .val (.int .i64))], 45, [(0, ⟨27, 1, .list (.int .u64)⟩)], 1⟩
noncomputable def anf_made_l5_out : Outs anf_made_l5_in.X := (.one (.exit 0) ⟨[(0, .own 0 1), (2, .val (.int .i64))], 46, [(0, ⟨27, 1, .list (.int .u64)⟩)], 1⟩ (Int × (List Int)) (fun x y => (y.1, y.2, ())))
noncomputable def anf_made_l5_e (N : Nat) : TE := ⟨10, anf_made_l5_in, anf_made_l5_out, fun x => anf_made_l5 N (x.1, x.2.1, x.2.2.1)⟩
noncomputable def anf_made_A (N : Nat) : Ann := { cx := ⟨Tryd.prog, dOf [slices_Clone_E N, slices_Sort_E N], md⟩, fn := 49, inr := false, mm := 0, fuel := 0, tab := [(14, [0, 3, 4, 5]), (10, [0, 3, 4])], xk := anf_made_xk, L := LOf [anf_made_l7_e N, anf_made_l5_e N] }
theorem anf_made_l7_ok (N : Nat) : EOK (anf_made_A N) (anf_made_l7_e N) ((findCut 14 (Tryd.f49.body.getD .skip)).getD .skip) :=
  loop_ok (pin := anf_made_l7_in) (outs := anf_made_l7_out) (V := Int) (s := fun x v => anf_made_l7_T N x.2.1 x.2.2.2.1 v) (mk := fun x v => (x.1, x.2.1, v, x.2.2.2.1, ())) (var := fun x => x.2.2.1) N rfl rfl (fun x => rfl) (fun x v R k => by kernel_rfl)
theorem anf_made_l5_ok (N : Nat) : EOK (anf_made_A N) (anf_made_l5_e N) ((findCut 10 (Tryd.f49.body.getD .skip)).getD .skip) :=
  loop_ok (pin := anf_made_l5_in) (outs := anf_made_l5_out) (V := (Int × Int × (List Int))) (s := fun x v => anf_made_l5_T N v.1 v.2.1 v.2.2) (mk := fun x v => (v.1, v.2.1, v.2.2, ())) (var := fun x => (x.1, x.2.1, x.2.2.1)) N rfl rfl (fun x => rfl) (fun x v R k => by kernel_rfl)
theorem anf_made_ok (N : Nat) : FEok Tryd.prog (anf_made_E N) :=
  fn_ok (A := anf_made_A N) (pin := [.val (.list (.int .u64))]) (rin := []) (outs := anf_made_o) (t := fun x => anf_made_T N x.1) (dok_of ⟨slices_Clone_ok N, ⟨slices_Sort_ok N, trivial⟩⟩) mixed Tryd.func49 (by kernel_rfl) (tok_fn ⟨(tok_of rfl (by kernel_rfl) ⟨anf_made_l7_ok N, ⟨anf_made_l5_ok N, trivial⟩⟩), lok_none (by kernel_rfl)⟩) false (fun x => by kernel_rfl)
noncomputable def anf_Make_o : FOuts (Pat.teleL [.val (.list (.int .u64))] (MPat.tele [] Unit)) := (.one false (.sl 0 1) [(0, ⟨27, 1, .list (.int .u64)⟩)] (Nat × (List Int)) (fun x y => (0, y.1, y.2, ())))
noncomputable def anf_Make_E (N : Nat) : FE := ⟨15, 0, [.val (.list (.int .u64))], [], anf_Make_o, fun x => anf_Make N x.1⟩
noncomputable def anf_Make_A (N : Nat) : Ann := { cx := ⟨Tryd.prog, dOf [anf_made_E N], md⟩, fn := 15, inr := false, mm := 0, fuel := 0, tab := [], xk := fun _ _ => [], L := LOf [] }
theorem anf_Make_ok (N : Nat) : FEok Tryd.prog (anf_Make_E N) :=
  fn_ok (A := anf_Make_A N) (pin := [.val (.list (.int .u64))]) (rin := []) (outs := anf_Make_o) (t := fun x => anf_Make_T N x.1) (dok_of ⟨anf_made_ok N, trivial⟩) mixed Tryd.func15 (by kernel_rfl) (tok_fn ⟨(tok_of rfl (by kernel_rfl) trivial), lok_none (by kernel_rfl)⟩) false (fun x => by kernel_rfl)
noncomputable def bautaref34_put_o : FOuts (Pat.teleL [.val (.list (.int .u64)), .val (.int .u64)] (MPat.tele [] Unit)) := (.one false (.own 0 1) [(0, ⟨27, 1, .list (.int .u64)⟩)] (List Int) (fun x y => (y, ())))
noncomputable def bautaref34_put_E (N : Nat) : FE := ⟨50, 0, [.val (.list (.int .u64)), .val (.int .u64)], [], bautaref34_put_o, fun x => bautaref34_put N x.1 x.2.1⟩
noncomputable def bautaref34_put_xk : Nat → Exit → List Nat
  | 4, .exit 0 => [0, 1, 5]
  | 4, .normal => [0, 1, 5]
  | 11, .ret => [4]
  | 11, .normal => [0, 1, 5]
  | 13, .ret => [4]
  | _, _ => []
noncomputable def bautaref34_put_l2_in : SPat := ⟨[(0, .val (.list (.int .u64))), (0, .val (.int .u64)), (3, .val (.int .i64))], 48, [], 0⟩
noncomputable def bautaref34_put_l2_out : Outs bautaref34_put_l2_in.X := (.one (.exit 0) ⟨[(0, .val (.list (.int .u64))), (0, .val (.int .u64)), (3, .val (.int .i64))], 48, [], 0⟩ Int (fun x y => (x.1, x.2.1, y, ())))
noncomputable def bautaref34_put_l2_e (N : Nat) : TE := ⟨4, bautaref34_put_l2_in, bautaref34_put_l2_out, fun x => bautaref34_put_l2 N x.1 x.2.1 x.2.2.1⟩
noncomputable def bautaref34_put_j5_in : SPat := ⟨[(0, .val (.list (.int .u64))), (0, .val (.int .u64)), (3, .val (.int .i64)), (25, .val .bool)], 22, [], 0⟩
noncomputable def bautaref34_put_j5_out : Outs bautaref34_put_j5_in.X := (.or (.ret) ⟨[(4, .own 0 1)], 49, [(0, ⟨27, 1, .list (.int .u64)⟩)], 1⟩ (List Int) (fun x y => (y, ())) (.one (.normal) ⟨[(0, .val (.list (.int .u64))), (0, .val (.int .u64)), (3, .val (.int .i64))], 48, [], 0⟩ Unit (fun x y => (x.1, x.2.1, x.2.2.1, ()))))
noncomputable def bautaref34_put_j5_e (N : Nat) : TE := ⟨11, bautaref34_put_j5_in, bautaref34_put_j5_out, fun x => bautaref34_put_j5 N x.1 x.2.2.1 x.2.2.2.1⟩
noncomputable def bautaref34_put_j6_in : SPat := ⟨[(0, .val (.list (.int .u64))), (0, .val (.int .u64)), (3, .val (.int .i64))], 48, [], 0⟩
noncomputable def bautaref34_put_j6_out : Outs bautaref34_put_j6_in.X := (.one (.ret) ⟨[(4, .own 0 1)], 49, [(0, ⟨27, 1, .list (.int .u64)⟩)], 1⟩ (List Int) (fun x y => (y, ())))
noncomputable def bautaref34_put_j6_e (N : Nat) : TE := ⟨13, bautaref34_put_j6_in, bautaref34_put_j6_out, fun x => bautaref34_put_j6 N x.1 x.2.1 x.2.2.1⟩
noncomputable def bautaref34_put_A (N : Nat) : Ann := { cx := ⟨Tryd.prog, dOf [], md⟩, fn := 50, inr := false, mm := 0, fuel := 0, tab := [(4, [0, 1, 5]), (11, [0, 1, 5, 31]), (13, [0, 1, 5])], xk := bautaref34_put_xk, L := LOf [bautaref34_put_l2_e N, bautaref34_put_j5_e N, bautaref34_put_j6_e N] }
theorem bautaref34_put_l2_ok (N : Nat) : EOK (bautaref34_put_A N) (bautaref34_put_l2_e N) ((findCut 4 (Tryd.f50.body.getD .skip)).getD .skip) :=
  loop_ok (pin := bautaref34_put_l2_in) (outs := bautaref34_put_l2_out) (V := Int) (s := fun x v => bautaref34_put_l2_T N x.1 x.2.1 v) (mk := fun x v => (x.1, x.2.1, v, ())) (var := fun x => x.2.2.1) N rfl rfl (fun x => rfl) (fun x v R k => by kernel_rfl)
theorem bautaref34_put_j5_ok (N : Nat) : EOK (bautaref34_put_A N) (bautaref34_put_j5_e N) ((findCut 11 (Tryd.f50.body.getD .skip)).getD .skip) :=
  join_ok (pin := bautaref34_put_j5_in) (outs := bautaref34_put_j5_out) (t := fun x => bautaref34_put_j5_T N x.1 x.2.2.1 x.2.2.2.1) rfl (fun x R k => by kernel_rfl)
theorem bautaref34_put_j6_ok (N : Nat) : EOK (bautaref34_put_A N) (bautaref34_put_j6_e N) ((findCut 13 (Tryd.f50.body.getD .skip)).getD .skip) :=
  join_ok (pin := bautaref34_put_j6_in) (outs := bautaref34_put_j6_out) (t := fun x => bautaref34_put_j6_T N x.1 x.2.1 x.2.2.1) rfl (fun x R k => by kernel_rfl)
theorem bautaref34_put_ok (N : Nat) : FEok Tryd.prog (bautaref34_put_E N) :=
  fn_ok (A := bautaref34_put_A N) (pin := [.val (.list (.int .u64)), .val (.int .u64)]) (rin := []) (outs := bautaref34_put_o) (t := fun x => bautaref34_put_T N x.1 x.2.1) (dok_of trivial) mixed Tryd.func50 (by kernel_rfl) (tok_fn ⟨(tok_of rfl (by kernel_rfl) ⟨bautaref34_put_l2_ok N, ⟨bautaref34_put_j5_ok N, ⟨bautaref34_put_j6_ok N, trivial⟩⟩⟩), lok_none (by kernel_rfl)⟩) false (fun x => by kernel_rfl)
noncomputable def bautaref34_Make_o : FOuts (Pat.teleL [.val (.list (.int .u64))] (MPat.tele [] Unit)) := (.one false (.own 0 1) [(0, ⟨27, 1, .list (.int .u64)⟩)] (List Int) (fun x y => (y, ())))
noncomputable def bautaref34_Make_E (N : Nat) : FE := ⟨17, 0, [.val (.list (.int .u64))], [], bautaref34_Make_o, fun x => bautaref34_Make N x.1⟩
noncomputable def bautaref34_Make_xk : Nat → Exit → List Nat
  | 6, .exit 0 => [3]
  | 6, .normal => [0, 3, 4]
  | _, _ => []
noncomputable def bautaref34_Make_l3_in : SPat := ⟨[(0, .val (.list (.int .u64))), (2, .own 0 1), (0, .val (.int .i64))], 14, [(0, ⟨27, 1, .list (.int .u64)⟩)], 1⟩
noncomputable def bautaref34_Make_l3_out : Outs bautaref34_Make_l3_in.X := (.one (.exit 0) ⟨[(3, .own 0 1)], 15, [(0, ⟨27, 1, .list (.int .u64)⟩)], 1⟩ (List Int) (fun x y => (y, ())))
noncomputable def bautaref34_Make_l3_e (N : Nat) : TE := ⟨6, bautaref34_Make_l3_in, bautaref34_Make_l3_out, fun x => bautaref34_Make_l3 N x.1 (x.2.1, x.2.2.1)⟩
noncomputable def bautaref34_Make_A (N : Nat) : Ann := { cx := ⟨Tryd.prog, dOf [bautaref34_put_E N], md⟩, fn := 17, inr := false, mm := 0, fuel := 0, tab := [(6, [0, 3, 4])], xk := bautaref34_Make_xk, L := LOf [bautaref34_Make_l3_e N] }
theorem bautaref34_Make_l3_ok (N : Nat) : EOK (bautaref34_Make_A N) (bautaref34_Make_l3_e N) ((findCut 6 (Tryd.f17.body.getD .skip)).getD .skip) :=
  loop_ok (pin := bautaref34_Make_l3_in) (outs := bautaref34_Make_l3_out) (V := (Int × (List Int))) (s := fun x v => bautaref34_Make_l3_T N x.1 v.1 v.2) (mk := fun x v => (x.1, v.1, v.2, ())) (var := fun x => (x.2.1, x.2.2.1)) N rfl rfl (fun x => rfl) (fun x v R k => by kernel_rfl)
theorem bautaref34_Make_ok (N : Nat) : FEok Tryd.prog (bautaref34_Make_E N) :=
  fn_ok (A := bautaref34_Make_A N) (pin := [.val (.list (.int .u64))]) (rin := []) (outs := bautaref34_Make_o) (t := fun x => bautaref34_Make_T N x.1) (dok_of ⟨bautaref34_put_ok N, trivial⟩) mixed Tryd.func17 (by kernel_rfl) (tok_fn ⟨(tok_of rfl (by kernel_rfl) ⟨bautaref34_Make_l3_ok N, trivial⟩), lok_none (by kernel_rfl)⟩) false (fun x => by kernel_rfl)
noncomputable def bautaref34_Same_o : FOuts (Pat.teleL [.val (.list (.int .u64)), .val (.list (.int .u64))] (MPat.tele [] Unit)) := (.one false (.val .bool) [] Bool (fun x y => (y, ())))
noncomputable def bautaref34_Same_E (N : Nat) : FE := ⟨16, 0, [.val (.list (.int .u64)), .val (.list (.int .u64))], [], bautaref34_Same_o, fun x => bautaref34_Same N x.1 x.2.1⟩
noncomputable def bautaref34_Same_xk : Nat → Exit → List Nat
  | 8, .ret => [4]
  | 8, .exit 0 => []
  | 8, .normal => [0, 1, 5]
  | _, _ => []
noncomputable def bautaref34_Same_l4_in : SPat := ⟨[(0, .val (.list (.int .u64))), (0, .val (.list (.int .u64))), (3, .val (.int .i64))], 20, [], 0⟩
noncomputable def bautaref34_Same_l4_out : Outs bautaref34_Same_l4_in.X := (.or (.ret) ⟨[(4, .val .bool)], 21, [], 0⟩ Unit (fun x y => (false, ())) (.one (.exit 0) ⟨[], 26, [], 0⟩ Unit (fun x y => ())))
noncomputable def bautaref34_Same_l4_e (N : Nat) : TE := ⟨8, bautaref34_Same_l4_in, bautaref34_Same_l4_out, fun x => bautaref34_Same_l4 N x.1 x.2.1 x.2.2.1⟩
noncomputable def bautaref34_Same_A (N : Nat) : Ann := { cx := ⟨Tryd.prog, dOf [], md⟩, fn := 16, inr := false, mm := 0, fuel := 0, tab := [(8, [0, 1, 5])], xk := bautaref34_Same_xk, L := LOf [bautaref34_Same_l4_e N] }
theorem bautaref34_Same_l4_ok (N : Nat) : EOK (bautaref34_Same_A N) (bautaref34_Same_l4_e N) ((findCut 8 (Tryd.f16.body.getD .skip)).getD .skip) :=
  loop_ok (pin := bautaref34_Same_l4_in) (outs := bautaref34_Same_l4_out) (V := Int) (s := fun x v => bautaref34_Same_l4_T N x.1 x.2.1 v) (mk := fun x v => (x.1, x.2.1, v, ())) (var := fun x => x.2.2.1) N rfl rfl (fun x => rfl) (fun x v R k => by kernel_rfl)
theorem bautaref34_Same_ok (N : Nat) : FEok Tryd.prog (bautaref34_Same_E N) :=
  fn_ok (A := bautaref34_Same_A N) (pin := [.val (.list (.int .u64)), .val (.list (.int .u64))]) (rin := []) (outs := bautaref34_Same_o) (t := fun x => bautaref34_Same_T N x.1 x.2.1) (dok_of trivial) mixed Tryd.func16 (by kernel_rfl) (tok_fn ⟨(tok_of rfl (by kernel_rfl) ⟨bautaref34_Same_l4_ok N, trivial⟩), lok_none (by kernel_rfl)⟩) false (fun x => by kernel_rfl)
noncomputable def anf_can_o : FOuts (Pat.teleL [.val (.list (.int .u64))] (MPat.tele [] Unit)) := (.one false (.val .bool) [] Bool (fun x y => (y, ())))
noncomputable def anf_can_E (N : Nat) : FE := ⟨51, 0, [.val (.list (.int .u64))], [], anf_can_o, fun x => anf_can N x.1⟩
noncomputable def anf_can_xk : Nat → Exit → List Nat
  | 4, .ret => [2]
  | 4, .exit 0 => []
  | 4, .normal => [0, 5, 6]
  | _, _ => []
noncomputable def anf_can_l2_in : SPat := ⟨[(0, .val (.list (.int .u64))), (4, .val (.int .i64)), (0, .val (.int .i64))], 17, [], 0⟩
noncomputable def anf_can_l2_out : Outs anf_can_l2_in.X := (.or (.ret) ⟨[(2, .val .bool)], 21, [], 0⟩ Unit (fun x y => (false, ())) (.one (.exit 0) ⟨[], 24, [], 0⟩ Unit (fun x y => ())))
noncomputable def anf_can_l2_e (N : Nat) : TE := ⟨4, anf_can_l2_in, anf_can_l2_out, fun x => anf_can_l2 N x.1 x.2.1 x.2.2.1⟩
noncomputable def anf_can_A (N : Nat) : Ann := { cx := ⟨Tryd.prog, dOf [], md⟩, fn := 51, inr := false, mm := 0, fuel := 0, tab := [(4, [0, 5, 6])], xk := anf_can_xk, L := LOf [anf_can_l2_e N] }
theorem anf_can_l2_ok (N : Nat) : EOK (anf_can_A N) (anf_can_l2_e N) ((findCut 4 (Tryd.f51.body.getD .skip)).getD .skip) :=
  loop_ok (pin := anf_can_l2_in) (outs := anf_can_l2_out) (V := Int) (s := fun x v => anf_can_l2_T N x.1 x.2.1 v) (mk := fun x v => (x.1, x.2.1, v, ())) (var := fun x => x.2.2.1) N rfl rfl (fun x => rfl) (fun x v R k => by kernel_rfl)
theorem anf_can_ok (N : Nat) : FEok Tryd.prog (anf_can_E N) :=
  fn_ok (A := anf_can_A N) (pin := [.val (.list (.int .u64))]) (rin := []) (outs := anf_can_o) (t := fun x => anf_can_T N x.1) (dok_of trivial) mixed Tryd.func51 (by kernel_rfl) (tok_fn ⟨(tok_of rfl (by kernel_rfl) ⟨anf_can_l2_ok N, trivial⟩), lok_none (by kernel_rfl)⟩) false (fun x => by kernel_rfl)
noncomputable def anf_Can_o : FOuts (Pat.teleL [.val (.list (.int .u64))] (MPat.tele [] Unit)) := (.one false (.val .bool) [] Bool (fun x y => (y, ())))
noncomputable def anf_Can_E (N : Nat) : FE := ⟨18, 0, [.val (.list (.int .u64))], [], anf_Can_o, fun x => anf_Can N x.1⟩
noncomputable def anf_Can_A (N : Nat) : Ann := { cx := ⟨Tryd.prog, dOf [anf_can_E N], md⟩, fn := 18, inr := false, mm := 0, fuel := 0, tab := [], xk := fun _ _ => [], L := LOf [] }
theorem anf_Can_ok (N : Nat) : FEok Tryd.prog (anf_Can_E N) :=
  fn_ok (A := anf_Can_A N) (pin := [.val (.list (.int .u64))]) (rin := []) (outs := anf_Can_o) (t := fun x => anf_Can_T N x.1) (dok_of ⟨anf_can_ok N, trivial⟩) mixed Tryd.func18 (by kernel_rfl) (tok_fn ⟨(tok_of rfl (by kernel_rfl) trivial), lok_none (by kernel_rfl)⟩) false (fun x => by kernel_rfl)
noncomputable def bautaref34_Can_o : FOuts (Pat.teleL [.val (.list (.int .u64))] (MPat.tele [] Unit)) := (.one false (.val .bool) [] Bool (fun x y => (y, ())))
noncomputable def bautaref34_Can_E (N : Nat) : FE := ⟨19, 0, [.val (.list (.int .u64))], [], bautaref34_Can_o, fun x => bautaref34_Can N x.1⟩
noncomputable def bautaref34_Can_A (N : Nat) : Ann := { cx := ⟨Tryd.prog, dOf [bautaref34_Make_E N, bautaref34_Same_E N], md⟩, fn := 19, inr := false, mm := 0, fuel := 0, tab := [], xk := fun _ _ => [], L := LOf [] }
theorem bautaref34_Can_ok (N : Nat) : FEok Tryd.prog (bautaref34_Can_E N) :=
  fn_ok (A := bautaref34_Can_A N) (pin := [.val (.list (.int .u64))]) (rin := []) (outs := bautaref34_Can_o) (t := fun x => bautaref34_Can_T N x.1) (dok_of ⟨bautaref34_Make_ok N, ⟨bautaref34_Same_ok N, trivial⟩⟩) mixed Tryd.func19 (by kernel_rfl) (tok_fn ⟨(tok_of rfl (by kernel_rfl) trivial), lok_none (by kernel_rfl)⟩) false (fun x => by kernel_rfl)
noncomputable def anf_poly_o : FOuts (Pat.teleL [.val (.list (.int .u64))] (MPat.tele [] Unit)) := (.or false (.val (.list (.int .u64))) [] Unit (fun x y => (x.1, ())) (.one false (.sl 0 1) [(0, ⟨27, 1, .list (.int .u64)⟩)] (Nat × (List Int)) (fun x y => (0, y.1, y.2, ()))))
noncomputable def anf_poly_E (N : Nat) : FE := ⟨55, 0, [.val (.list (.int .u64))], [], anf_poly_o, fun x => anf_poly N x.1⟩
noncomputable def anf_poly_A (N : Nat) : Ann := { cx := ⟨Tryd.prog, dOf [anf_can_E N, anf_made_E N], md⟩, fn := 55, inr := false, mm := 0, fuel := 0, tab := [], xk := fun _ _ => [], L := LOf [] }
theorem anf_poly_ok (N : Nat) : FEok Tryd.prog (anf_poly_E N) :=
  fn_ok (A := anf_poly_A N) (pin := [.val (.list (.int .u64))]) (rin := []) (outs := anf_poly_o) (t := fun x => anf_poly_T N x.1) (dok_of ⟨anf_can_ok N, ⟨anf_made_ok N, trivial⟩⟩) mixed Tryd.func55 (by kernel_rfl) (tok_fn ⟨(tok_of rfl (by kernel_rfl) trivial), lok_none (by kernel_rfl)⟩) false (fun x => by kernel_rfl)
noncomputable def anf_mul_o : FOuts (Pat.teleL [.val (.list (.int .u64)), .val (.list (.int .u64))] (MPat.tele [] Unit)) := (.or false (.tup [.own 0 1, .val (.int .i64)]) [(0, ⟨27, 1, .list (.int .u64)⟩)] Unit (fun x y => (150, [], ())) (.one false (.tup [.sl 0 1, .val (.int .i64)]) [(0, ⟨27, 1, .list (.int .u64)⟩)] (Nat × (List Int)) (fun x y => (0, y.1, 0, y.2, ()))))
noncomputable def anf_mul_E (N : Nat) : FE := ⟨54, 0, [.val (.list (.int .u64)), .val (.list (.int .u64))], [], anf_mul_o, fun x => anf_mul N x.1 x.2.1⟩
noncomputable def anf_mul_xk : Nat → Exit → List Nat
  | 16, .exit 2 => [1, 6, 17, 18, 19]
  | 16, .normal => [1, 6, 8, 17, 18, 19, 23, 24, 25]
  | 10, .exit 0 => [6]
  | 10, .normal => [1, 6, 17, 18, 19]
  | _, _ => []
noncomputable def anf_mul_l8_in : SPat := ⟨[(1, .val (.list (.int .u64))), (4, .own 0 1), (1, .val (.int .u64)), (8, .val (.list (.int .u64))), (0, .val (.int .i64)), (0, .val (.int .i64)), (3, .val (.list (.int .u64))), (0, .val (.int .i64)), (0, .val (.int .i64))], 17, [(0, ⟨27, 1, .list (.int .u64)⟩)], 1⟩
noncomputable def anf_mul_l8_out : Outs anf_mul_l8_in.X := (.one (.exit 2) ⟨[(1, .val (.list (.int .u64))), (4, .own 0 1), (10, .val (.list (.int .u64))), (0, .val (.int .i64)), (0, .val (.int .i64))], 23, [(0, ⟨27, 1, .list (.int .u64)⟩)], 1⟩ (List Int) (fun x y => (x.1, x.2.2.1, x.2.2.2.1, x.2.2.2.2.1, y, ())))
noncomputable def anf_mul_l8_e (N : Nat) : TE := ⟨16, anf_mul_l8_in, anf_mul_l8_out, fun x => anf_mul_l8 N x.2.1 x.2.2.2.2.2.1 x.2.2.2.2.2.2.1 (x.2.2.2.2.2.2.2.1, x.2.2.2.2.2.2.2.2.1)⟩
noncomputable def anf_mul_l5_in : SPat := ⟨[(1, .val (.list (.int .u64))), (4, .own 0 1), (10, .val (.list (.int .u64))), (0, .val (.int .i64)), (0, .val (.int .i64))], 23, [(0, ⟨27, 1, .list (.int .u64)⟩)], 1⟩
noncomputable def anf_mul_l5_out : Outs anf_mul_l5_in.X := (.one (.exit 0) ⟨[(6, .own 0 1)], 36, [(0, ⟨27, 1, .list (.int .u64)⟩)], 1⟩ (List Int) (fun x y => (y, ())))
noncomputable def anf_mul_l5_e (N : Nat) : TE := ⟨10, anf_mul_l5_in, anf_mul_l5_out, fun x => anf_mul_l5 N x.1 x.2.1 x.2.2.1 (x.2.2.2.1, x.2.2.2.2.1)⟩
noncomputable def anf_mul_A (N : Nat) : Ann := { cx := ⟨Tryd.prog, dOf [anf_made_E N], md⟩, fn := 54, inr := false, mm := 0, fuel := 0, tab := [(16, [1, 6, 8, 17, 18, 19, 23, 24, 25]), (10, [1, 6, 17, 18, 19])], xk := anf_mul_xk, L := LOf [anf_mul_l8_e N, anf_mul_l5_e N] }
theorem anf_mul_l8_ok (N : Nat) : EOK (anf_mul_A N) (anf_mul_l8_e N) ((findCut 16 (Tryd.f54.body.getD .skip)).getD .skip) :=
  loop_ok (pin := anf_mul_l8_in) (outs := anf_mul_l8_out) (V := (Int × (List Int))) (s := fun x v => anf_mul_l8_T N x.2.1 x.2.2.2.2.2.1 x.2.2.2.2.2.2.1 v.1 v.2) (mk := fun x v => (x.1, x.2.1, x.2.2.1, x.2.2.2.1, x.2.2.2.2.1, x.2.2.2.2.2.1, x.2.2.2.2.2.2.1, v.1, v.2, ())) (var := fun x => (x.2.2.2.2.2.2.2.1, x.2.2.2.2.2.2.2.2.1)) N rfl rfl (fun x => rfl) (fun x v R k => by kernel_rfl)
theorem anf_mul_l5_ok (N : Nat) : EOK (anf_mul_A N) (anf_mul_l5_e N) ((findCut 10 (Tryd.f54.body.getD .skip)).getD .skip) :=
  loop_ok (pin := anf_mul_l5_in) (outs := anf_mul_l5_out) (V := (Int × (List Int))) (s := fun x v => anf_mul_l5_T N x.1 x.2.1 x.2.2.1 v.1 v.2) (mk := fun x v => (x.1, x.2.1, x.2.2.1, v.1, v.2, ())) (var := fun x => (x.2.2.2.1, x.2.2.2.2.1)) N rfl rfl (fun x => rfl) (fun x v R k => by kernel_rfl)
theorem anf_mul_ok (N : Nat) : FEok Tryd.prog (anf_mul_E N) :=
  fn_ok (A := anf_mul_A N) (pin := [.val (.list (.int .u64)), .val (.list (.int .u64))]) (rin := []) (outs := anf_mul_o) (t := fun x => anf_mul_T N x.1 x.2.1) (dok_of ⟨anf_made_ok N, trivial⟩) mixed Tryd.func54 (by kernel_rfl) (tok_fn ⟨(tok_of rfl (by kernel_rfl) ⟨anf_mul_l8_ok N, ⟨anf_mul_l5_ok N, trivial⟩⟩), lok_none (by kernel_rfl)⟩) false (fun x => by kernel_rfl)
noncomputable def anf_Mul_o : FOuts (Pat.teleL [.val (.list (.int .u64)), .val (.list (.int .u64))] (MPat.tele [] Unit)) := (.or false (.tup [.own 0 1, .val (.int .i64)]) [(0, ⟨27, 1, .list (.int .u64)⟩)] Unit (fun x y => (150, [], ())) (.one false (.tup [.sl 0 1, .val (.int .i64)]) [(0, ⟨27, 1, .list (.int .u64)⟩)] (Nat × (List Int)) (fun x y => (0, y.1, 0, y.2, ()))))
noncomputable def anf_Mul_E (N : Nat) : FE := ⟨23, 0, [.val (.list (.int .u64)), .val (.list (.int .u64))], [], anf_Mul_o, fun x => anf_Mul N x.1 x.2.1⟩
noncomputable def anf_Mul_A (N : Nat) : Ann := { cx := ⟨Tryd.prog, dOf [anf_poly_E N, anf_mul_E N], md⟩, fn := 23, inr := false, mm := 0, fuel := 0, tab := [], xk := fun _ _ => [], L := LOf [] }
theorem anf_Mul_ok (N : Nat) : FEok Tryd.prog (anf_Mul_E N) :=
  fn_ok (A := anf_Mul_A N) (pin := [.val (.list (.int .u64)), .val (.list (.int .u64))]) (rin := []) (outs := anf_Mul_o) (t := fun x => anf_Mul_T N x.1 x.2.1) (dok_of ⟨anf_poly_ok N, ⟨anf_mul_ok N, trivial⟩⟩) mixed Tryd.func23 (by kernel_rfl) (tok_fn ⟨(tok_of rfl (by kernel_rfl) trivial), lok_none (by kernel_rfl)⟩) false (fun x => by kernel_rfl)
noncomputable def strconv_Itoa_o : FOuts (Pat.teleL [.val (.int .i64)] (MPat.tele [] Unit)) := (.one false (.val .str) [] ByteArray (fun x y => (y, ())))
noncomputable def strconv_Itoa_E (N : Nat) : FE := ⟨90, 0, [.val (.int .i64)], [], strconv_Itoa_o, fun x => strconv_Itoa N x.1⟩
theorem strconv_Itoa_ok (N : Nat) : FEok Tryd.prog (strconv_Itoa_E N) := ⟨fun _ => enters_run Tryd.func90 (by kernel_rfl), fun x y h => lib_ok (by kernel_rfl) rfl rfl fun W gw => strconv_Itoa_c (N := N) gw h⟩
noncomputable def strings_Join_o : FOuts (Pat.teleL [.val (.list .str), .val .str] (MPat.tele [] Unit)) := (.one false (.val .str) [] ByteArray (fun x y => (y, ())))
noncomputable def strings_Join_E (N : Nat) : FE := ⟨85, 0, [.val (.list .str), .val .str], [], strings_Join_o, fun x => strings_Join N x.1 x.2.1⟩
theorem strings_Join_ok (N : Nat) : FEok Tryd.prog (strings_Join_E N) := ⟨fun _ => enters_run Tryd.func85 (by kernel_rfl), fun x y h => strings_Join_c (N := N) h⟩
noncomputable def anf_term_o : FOuts (Pat.teleL [.val (.int .u64)] (MPat.tele [] Unit)) := (.one false (.val .str) [] ByteArray (fun x y => (y, ())))
noncomputable def anf_term_E (N : Nat) : FE := ⟨84, 0, [.val (.int .u64)], [], anf_term_o, fun x => anf_term N x.1⟩
noncomputable def anf_term_xk : Nat → Exit → List Nat
  | 10, .exit 0 => [3]
  | 10, .normal => [0, 3, 7]
  | _, _ => []
noncomputable def anf_term_l5_in : SPat := ⟨[(0, .val (.int .u64)), (2, .own 0 1), (3, .val (.int .i64))], 16, [(0, ⟨9, 1, .list .str⟩)], 1⟩
noncomputable def anf_term_l5_out : Outs anf_term_l5_in.X := (.one (.exit 0) ⟨[(3, .own 0 1)], 20, [(0, ⟨9, 1, .list .str⟩)], 1⟩ (List ByteArray) (fun x y => (y, ())))
noncomputable def anf_term_l5_e (N : Nat) : TE := ⟨10, anf_term_l5_in, anf_term_l5_out, fun x => anf_term_l5 N x.1 (x.2.1, x.2.2.1)⟩
noncomputable def anf_term_A (N : Nat) : Ann := { cx := ⟨Tryd.prog, dOf [strconv_Itoa_E N, strings_Join_E N], md⟩, fn := 84, inr := false, mm := 0, fuel := 0, tab := [(10, [0, 3, 7])], xk := anf_term_xk, L := LOf [anf_term_l5_e N] }
theorem anf_term_l5_ok (N : Nat) : EOK (anf_term_A N) (anf_term_l5_e N) ((findCut 10 (Tryd.f84.body.getD .skip)).getD .skip) :=
  loop_ok (pin := anf_term_l5_in) (outs := anf_term_l5_out) (V := (Int × (List ByteArray))) (s := fun x v => anf_term_l5_T N x.1 v.1 v.2) (mk := fun x v => (x.1, v.1, v.2, ())) (var := fun x => (x.2.1, x.2.2.1)) N rfl rfl (fun x => rfl) (fun x v R k => by kernel_rfl)
theorem anf_term_ok (N : Nat) : FEok Tryd.prog (anf_term_E N) :=
  fn_ok (A := anf_term_A N) (pin := [.val (.int .u64)]) (rin := []) (outs := anf_term_o) (t := fun x => anf_term_T N x.1) (dok_of ⟨strconv_Itoa_ok N, ⟨strings_Join_ok N, trivial⟩⟩) mixed Tryd.func84 (by kernel_rfl) (tok_fn ⟨(tok_of rfl (by kernel_rfl) ⟨anf_term_l5_ok N, trivial⟩), lok_none (by kernel_rfl)⟩) false (fun x => by kernel_rfl)
noncomputable def anf_show_o : FOuts (Pat.teleL [.val (.list (.int .u64))] (MPat.tele [] Unit)) := (.one false (.val .str) [] ByteArray (fun x y => (y, ())))
noncomputable def anf_show_E (N : Nat) : FE := ⟨61, 0, [.val (.list (.int .u64))], [], anf_show_o, fun x => anf_show N x.1⟩
noncomputable def anf_show_xk : Nat → Exit → List Nat
  | 10, .exit 0 => [3]
  | 10, .normal => [3, 9, 10, 11]
  | _, _ => []
noncomputable def anf_show_l5_in : SPat := ⟨[(3, .own 0 1), (5, .val (.list (.int .u64))), (0, .val (.int .i64)), (0, .val (.int .i64))], 11, [(0, ⟨9, 1, .list .str⟩)], 1⟩
noncomputable def anf_show_l5_out : Outs anf_show_l5_in.X := (.one (.exit 0) ⟨[(3, .own 0 1)], 19, [(0, ⟨9, 1, .list .str⟩)], 1⟩ (List ByteArray) (fun x y => (y, ())))
noncomputable def anf_show_l5_e (N : Nat) : TE := ⟨10, anf_show_l5_in, anf_show_l5_out, fun x => anf_show_l5 N x.1 x.2.1 (x.2.2.1, x.2.2.2.1)⟩
noncomputable def anf_show_A (N : Nat) : Ann := { cx := ⟨Tryd.prog, dOf [anf_term_E N, strings_Join_E N], md⟩, fn := 61, inr := false, mm := 0, fuel := 0, tab := [(10, [3, 9, 10, 11])], xk := anf_show_xk, L := LOf [anf_show_l5_e N] }
theorem anf_show_l5_ok (N : Nat) : EOK (anf_show_A N) (anf_show_l5_e N) ((findCut 10 (Tryd.f61.body.getD .skip)).getD .skip) :=
  loop_ok (pin := anf_show_l5_in) (outs := anf_show_l5_out) (V := (Int × (List ByteArray))) (s := fun x v => anf_show_l5_T N x.1 x.2.1 v.1 v.2) (mk := fun x v => (x.1, x.2.1, v.1, v.2, ())) (var := fun x => (x.2.2.1, x.2.2.2.1)) N rfl rfl (fun x => rfl) (fun x v R k => by kernel_rfl)
theorem anf_show_ok (N : Nat) : FEok Tryd.prog (anf_show_E N) :=
  fn_ok (A := anf_show_A N) (pin := [.val (.list (.int .u64))]) (rin := []) (outs := anf_show_o) (t := fun x => anf_show_T N x.1) (dok_of ⟨anf_term_ok N, ⟨strings_Join_ok N, trivial⟩⟩) mixed Tryd.func61 (by kernel_rfl) (tok_fn ⟨(tok_of rfl (by kernel_rfl) ⟨anf_show_l5_ok N, trivial⟩), lok_none (by kernel_rfl)⟩) false (fun x => by kernel_rfl)
noncomputable def anf_Show_o : FOuts (Pat.teleL [.val (.list (.int .u64))] (MPat.tele [] Unit)) := (.one false (.val .str) [] ByteArray (fun x y => (y, ())))
noncomputable def anf_Show_E (N : Nat) : FE := ⟨52, 0, [.val (.list (.int .u64))], [], anf_Show_o, fun x => anf_Show N x.1⟩
noncomputable def anf_Show_A (N : Nat) : Ann := { cx := ⟨Tryd.prog, dOf [anf_poly_E N, anf_show_E N], md⟩, fn := 52, inr := false, mm := 0, fuel := 0, tab := [], xk := fun _ _ => [], L := LOf [] }
theorem anf_Show_ok (N : Nat) : FEok Tryd.prog (anf_Show_E N) :=
  fn_ok (A := anf_Show_A N) (pin := [.val (.list (.int .u64))]) (rin := []) (outs := anf_Show_o) (t := fun x => anf_Show_T N x.1) (dok_of ⟨anf_poly_ok N, ⟨anf_show_ok N, trivial⟩⟩) mixed Tryd.func52 (by kernel_rfl) (tok_fn ⟨(tok_of rfl (by kernel_rfl) trivial), lok_none (by kernel_rfl)⟩) false (fun x => by kernel_rfl)
noncomputable def bautalaw34_lives_o : FOuts (Pat.teleL [] (MPat.tele [] Unit)) := (.one false (.val .bool) [] Bool (fun x y => (y, ())))
noncomputable def bautalaw34_lives_E (N : Nat) : FE := ⟨20, 0, [], [], bautalaw34_lives_o, fun x => bautalaw34_lives N⟩
noncomputable def bautalaw34_lives_A (N : Nat) : Ann := { cx := ⟨Tryd.prog, dOf [anf_Mul_E N, bautaref34_Same_E N, anf_Show_E N], md⟩, fn := 20, inr := false, mm := 0, fuel := 0, tab := [], xk := fun _ _ => [], L := LOf [] }
theorem bautalaw34_lives_ok (N : Nat) : FEok Tryd.prog (bautalaw34_lives_E N) :=
  fn_ok (A := bautalaw34_lives_A N) (pin := []) (rin := []) (outs := bautalaw34_lives_o) (t := fun x => bautalaw34_lives_T N) (dok_of ⟨anf_Mul_ok N, ⟨bautaref34_Same_ok N, ⟨anf_Show_ok N, trivial⟩⟩⟩) mixed Tryd.func20 (by kernel_rfl) (tok_fn ⟨(tok_of rfl (by kernel_rfl) trivial), lok_none (by kernel_rfl)⟩) false (fun x => by kernel_rfl)
noncomputable def bautalaw34_AnfMakes_o : FOuts (Pat.teleL [.val (.list (.int .u64))] (MPat.tele [] Unit)) := (.one false (.val .bool) [] Bool (fun x y => (y, ())))
noncomputable def bautalaw34_AnfMakes_E (N : Nat) : FE := ⟨3, 0, [.val (.list (.int .u64))], [], bautalaw34_AnfMakes_o, fun x => bautalaw34_AnfMakes N x.1⟩
noncomputable def bautalaw34_AnfMakes_A (N : Nat) : Ann := { cx := ⟨Tryd.prog, dOf [bautalaw34_short_E N, anf_Make_E N, bautaref34_Make_E N, bautaref34_Same_E N, anf_Can_E N, bautaref34_Can_E N, bautalaw34_lives_E N], md⟩, fn := 3, inr := false, mm := 0, fuel := 0, tab := [], xk := fun _ _ => [], L := LOf [] }
theorem bautalaw34_AnfMakes_ok (N : Nat) : FEok Tryd.prog (bautalaw34_AnfMakes_E N) :=
  fn_ok (A := bautalaw34_AnfMakes_A N) (pin := [.val (.list (.int .u64))]) (rin := []) (outs := bautalaw34_AnfMakes_o) (t := fun x => bautalaw34_AnfMakes_T N x.1) (dok_of ⟨bautalaw34_short_ok N, ⟨anf_Make_ok N, ⟨bautaref34_Make_ok N, ⟨bautaref34_Same_ok N, ⟨anf_Can_ok N, ⟨bautaref34_Can_ok N, ⟨bautalaw34_lives_ok N, trivial⟩⟩⟩⟩⟩⟩⟩) mixed Tryd.func3 (by kernel_rfl) (tok_fn ⟨(tok_of rfl (by kernel_rfl) trivial), lok_none (by kernel_rfl)⟩) false (fun x => by kernel_rfl)
noncomputable def anf_Eval_o : FOuts (Pat.teleL [.val (.list (.int .u64)), .val (.int .u64)] (MPat.tele [] Unit)) := (.one false (.val .bool) [] Bool (fun x y => (y, ())))
noncomputable def anf_Eval_E (N : Nat) : FE := ⟨21, 0, [.val (.list (.int .u64)), .val (.int .u64)], [], anf_Eval_o, fun x => anf_Eval N x.1 x.2.1⟩
noncomputable def anf_Eval_xk : Nat → Exit → List Nat
  | 6, .exit 0 => [5]
  | 6, .normal => [1, 5, 8, 9, 10]
  | _, _ => []
noncomputable def anf_Eval_l3_in : SPat := ⟨[(1, .val (.int .u64)), (3, .val .bool), (2, .val (.list (.int .u64))), (0, .val (.int .i64)), (0, .val (.int .i64))], 11, [], 0⟩
noncomputable def anf_Eval_l3_out : Outs anf_Eval_l3_in.X := (.one (.exit 0) ⟨[(5, .val .bool)], 16, [], 0⟩ Bool (fun x y => (y, ())))
noncomputable def anf_Eval_l3_e (N : Nat) : TE := ⟨6, anf_Eval_l3_in, anf_Eval_l3_out, fun x => anf_Eval_l3 N x.1 x.2.2.1 x.2.2.2.1 (x.2.1, x.2.2.2.2.1)⟩
noncomputable def anf_Eval_A (N : Nat) : Ann := { cx := ⟨Tryd.prog, dOf [], md⟩, fn := 21, inr := false, mm := 0, fuel := 0, tab := [(6, [1, 5, 8, 9, 10])], xk := anf_Eval_xk, L := LOf [anf_Eval_l3_e N] }
theorem anf_Eval_l3_ok (N : Nat) : EOK (anf_Eval_A N) (anf_Eval_l3_e N) ((findCut 6 (Tryd.f21.body.getD .skip)).getD .skip) :=
  loop_ok (pin := anf_Eval_l3_in) (outs := anf_Eval_l3_out) (V := (Bool × Int)) (s := fun x v => anf_Eval_l3_T N x.1 x.2.2.1 x.2.2.2.1 v.1 v.2) (mk := fun x v => (x.1, v.1, x.2.2.1, x.2.2.2.1, v.2, ())) (var := fun x => (x.2.1, x.2.2.2.2.1)) N rfl rfl (fun x => rfl) (fun x v R k => by kernel_rfl)
theorem anf_Eval_ok (N : Nat) : FEok Tryd.prog (anf_Eval_E N) :=
  fn_ok (A := anf_Eval_A N) (pin := [.val (.list (.int .u64)), .val (.int .u64)]) (rin := []) (outs := anf_Eval_o) (t := fun x => anf_Eval_T N x.1 x.2.1) (dok_of trivial) mixed Tryd.func21 (by kernel_rfl) (tok_fn ⟨(tok_of rfl (by kernel_rfl) ⟨anf_Eval_l3_ok N, trivial⟩), lok_none (by kernel_rfl)⟩) false (fun x => by kernel_rfl)
noncomputable def bautaref34_bit_o : FOuts (Pat.teleL [.val (.int .u64), .val (.int .i64)] (MPat.tele [] Unit)) := (.one false (.val .bool) [] Bool (fun x y => (y, ())))
noncomputable def bautaref34_bit_E (N : Nat) : FE := ⟨53, 0, [.val (.int .u64), .val (.int .i64)], [], bautaref34_bit_o, fun x => bautaref34_bit N x.1 x.2.1⟩
noncomputable def bautaref34_bit_A (N : Nat) : Ann := { cx := ⟨Tryd.prog, dOf [], md⟩, fn := 53, inr := false, mm := 0, fuel := 0, tab := [], xk := fun _ _ => [], L := LOf [] }
theorem bautaref34_bit_ok (N : Nat) : FEok Tryd.prog (bautaref34_bit_E N) :=
  fn_ok (A := bautaref34_bit_A N) (pin := [.val (.int .u64), .val (.int .i64)]) (rin := []) (outs := bautaref34_bit_o) (t := fun x => bautaref34_bit_T N x.1 x.2.1) (dok_of trivial) mixed Tryd.func53 (by kernel_rfl) (tok_fn ⟨(tok_of rfl (by kernel_rfl) trivial), lok_none (by kernel_rfl)⟩) false (fun x => by kernel_rfl)
noncomputable def bautaref34_Eval_o : FOuts (Pat.teleL [.val (.list (.int .u64)), .val (.int .u64)] (MPat.tele [] Unit)) := (.one false (.val .bool) [] Bool (fun x y => (y, ())))
noncomputable def bautaref34_Eval_E (N : Nat) : FE := ⟨22, 0, [.val (.list (.int .u64)), .val (.int .u64)], [], bautaref34_Eval_o, fun x => bautaref34_Eval N x.1 x.2.1⟩
noncomputable def bautaref34_Eval_xk : Nat → Exit → List Nat
  | 14, .exit 2 => [0, 1, 5, 6, 7]
  | 14, .normal => [0, 1, 5, 6, 7, 8]
  | 6, .exit 0 => [5]
  | 6, .normal => [0, 1, 5, 6]
  | _, _ => []
noncomputable def bautaref34_Eval_l7_in : SPat := ⟨[(0, .val (.list (.int .u64))), (0, .val (.int .u64)), (3, .val .bool), (0, .val (.int .i64)), (0, .val .bool), (0, .val (.int .i64))], 26, [], 0⟩
noncomputable def bautaref34_Eval_l7_out : Outs bautaref34_Eval_l7_in.X := (.one (.exit 2) ⟨[(0, .val (.list (.int .u64))), (0, .val (.int .u64)), (3, .val .bool), (0, .val (.int .i64)), (0, .val .bool)], 27, [], 0⟩ Bool (fun x y => (x.1, x.2.1, x.2.2.1, x.2.2.2.1, y, ())))
noncomputable def bautaref34_Eval_l7_e (N : Nat) : TE := ⟨14, bautaref34_Eval_l7_in, bautaref34_Eval_l7_out, fun x => bautaref34_Eval_l7 N x.1 x.2.1 x.2.2.2.1 (x.2.2.2.2.1, x.2.2.2.2.2.1)⟩
noncomputable def bautaref34_Eval_l3_in : SPat := ⟨[(0, .val (.list (.int .u64))), (0, .val (.int .u64)), (3, .val .bool), (0, .val (.int .i64))], 28, [], 0⟩
noncomputable def bautaref34_Eval_l3_out : Outs bautaref34_Eval_l3_in.X := (.one (.exit 0) ⟨[(5, .val .bool)], 29, [], 0⟩ Bool (fun x y => (y, ())))
noncomputable def bautaref34_Eval_l3_e (N : Nat) : TE := ⟨6, bautaref34_Eval_l3_in, bautaref34_Eval_l3_out, fun x => bautaref34_Eval_l3 N x.1 x.2.1 (x.2.2.1, x.2.2.2.1)⟩
noncomputable def bautaref34_Eval_A (N : Nat) : Ann := { cx := ⟨Tryd.prog, dOf [bautaref34_bit_E N], md⟩, fn := 22, inr := false, mm := 0, fuel := 0, tab := [(14, [0, 1, 5, 6, 7, 8]), (6, [0, 1, 5, 6])], xk := bautaref34_Eval_xk, L := LOf [bautaref34_Eval_l7_e N, bautaref34_Eval_l3_e N] }
theorem bautaref34_Eval_l7_ok (N : Nat) : EOK (bautaref34_Eval_A N) (bautaref34_Eval_l7_e N) ((findCut 14 (Tryd.f22.body.getD .skip)).getD .skip) :=
  loop_ok (pin := bautaref34_Eval_l7_in) (outs := bautaref34_Eval_l7_out) (V := (Bool × Int)) (s := fun x v => bautaref34_Eval_l7_T N x.1 x.2.1 x.2.2.2.1 v.1 v.2) (mk := fun x v => (x.1, x.2.1, x.2.2.1, x.2.2.2.1, v.1, v.2, ())) (var := fun x => (x.2.2.2.2.1, x.2.2.2.2.2.1)) N rfl rfl (fun x => rfl) (fun x v R k => by kernel_rfl)
theorem bautaref34_Eval_l3_ok (N : Nat) : EOK (bautaref34_Eval_A N) (bautaref34_Eval_l3_e N) ((findCut 6 (Tryd.f22.body.getD .skip)).getD .skip) :=
  loop_ok (pin := bautaref34_Eval_l3_in) (outs := bautaref34_Eval_l3_out) (V := (Bool × Int)) (s := fun x v => bautaref34_Eval_l3_T N x.1 x.2.1 v.1 v.2) (mk := fun x v => (x.1, x.2.1, v.1, v.2, ())) (var := fun x => (x.2.2.1, x.2.2.2.1)) N rfl rfl (fun x => rfl) (fun x v R k => by kernel_rfl)
theorem bautaref34_Eval_ok (N : Nat) : FEok Tryd.prog (bautaref34_Eval_E N) :=
  fn_ok (A := bautaref34_Eval_A N) (pin := [.val (.list (.int .u64)), .val (.int .u64)]) (rin := []) (outs := bautaref34_Eval_o) (t := fun x => bautaref34_Eval_T N x.1 x.2.1) (dok_of ⟨bautaref34_bit_ok N, trivial⟩) mixed Tryd.func22 (by kernel_rfl) (tok_fn ⟨(tok_of rfl (by kernel_rfl) ⟨bautaref34_Eval_l7_ok N, ⟨bautaref34_Eval_l3_ok N, trivial⟩⟩), lok_none (by kernel_rfl)⟩) false (fun x => by kernel_rfl)
noncomputable def anf_add_o : FOuts (Pat.teleL [.val (.list (.int .u64)), .val (.list (.int .u64))] (MPat.tele [] Unit)) := (.one false (.own 0 1) [(0, ⟨27, 1, .list (.int .u64)⟩)] (List Int) (fun x y => (y, ())))
noncomputable def anf_add_E (N : Nat) : FE := ⟨56, 0, [.val (.list (.int .u64)), .val (.list (.int .u64))], [], anf_add_o, fun x => anf_add N x.1 x.2.1⟩
noncomputable def anf_add_xk : Nat → Exit → List Nat
  | 9, .normal => [0, 1, 5]
  | 4, .exit 0 => [0, 1, 5]
  | 4, .normal => [0, 1, 5]
  | _, _ => []
noncomputable def anf_add_j4_in : SPat := ⟨[(0, .val (.list (.int .u64))), (0, .val (.list (.int .u64))), (3, .own 0 1)], 49, [(0, ⟨27, 1, .list (.int .u64)⟩)], 1⟩
noncomputable def anf_add_j4_out : Outs anf_add_j4_in.X := (.one (.normal) ⟨[(0, .val (.list (.int .u64))), (0, .val (.list (.int .u64))), (3, .own 0 1)], 49, [(0, ⟨27, 1, .list (.int .u64)⟩)], 1⟩ ((List Int) × (List Int) × (List Int)) (fun x y => (y.1, y.2.1, y.2.2, ())))
noncomputable def anf_add_j4_e (N : Nat) : TE := ⟨9, anf_add_j4_in, anf_add_j4_out, fun x => anf_add_j4 N x.1 x.2.1 x.2.2.1⟩
noncomputable def anf_add_l2_in : SPat := ⟨[(0, .val (.list (.int .u64))), (0, .val (.list (.int .u64))), (3, .own 0 1)], 49, [(0, ⟨27, 1, .list (.int .u64)⟩)], 1⟩
noncomputable def anf_add_l2_out : Outs anf_add_l2_in.X := (.one (.exit 0) ⟨[(0, .val (.list (.int .u64))), (0, .val (.list (.int .u64))), (3, .own 0 1)], 49, [(0, ⟨27, 1, .list (.int .u64)⟩)], 1⟩ ((List Int) × (List Int) × (List Int)) (fun x y => (y.1, y.2.1, y.2.2, ())))
noncomputable def anf_add_l2_e (N : Nat) : TE := ⟨4, anf_add_l2_in, anf_add_l2_out, fun x => anf_add_l2 N (x.1, x.2.1, x.2.2.1)⟩
noncomputable def anf_add_A (N : Nat) : Ann := { cx := ⟨Tryd.prog, dOf [], md⟩, fn := 56, inr := false, mm := 0, fuel := 0, tab := [(9, [0, 1, 5]), (4, [0, 1, 5])], xk := anf_add_xk, L := LOf [anf_add_j4_e N, anf_add_l2_e N] }
theorem anf_add_j4_ok (N : Nat) : EOK (anf_add_A N) (anf_add_j4_e N) ((findCut 9 (Tryd.f56.body.getD .skip)).getD .skip) :=
  join_ok (pin := anf_add_j4_in) (outs := anf_add_j4_out) (t := fun x => anf_add_j4_T N x.1 x.2.1 x.2.2.1) rfl (fun x R k => by kernel_rfl)
theorem anf_add_l2_ok (N : Nat) : EOK (anf_add_A N) (anf_add_l2_e N) ((findCut 4 (Tryd.f56.body.getD .skip)).getD .skip) :=
  loop_ok (pin := anf_add_l2_in) (outs := anf_add_l2_out) (V := ((List Int) × (List Int) × (List Int))) (s := fun x v => anf_add_l2_T N v.1 v.2.1 v.2.2) (mk := fun x v => (v.1, v.2.1, v.2.2, ())) (var := fun x => (x.1, x.2.1, x.2.2.1)) N rfl rfl (fun x => rfl) (fun x v R k => by kernel_rfl)
theorem anf_add_ok (N : Nat) : FEok Tryd.prog (anf_add_E N) :=
  fn_ok (A := anf_add_A N) (pin := [.val (.list (.int .u64)), .val (.list (.int .u64))]) (rin := []) (outs := anf_add_o) (t := fun x => anf_add_T N x.1 x.2.1) (dok_of trivial) mixed Tryd.func56 (by kernel_rfl) (tok_fn ⟨(tok_of rfl (by kernel_rfl) ⟨anf_add_j4_ok N, ⟨anf_add_l2_ok N, trivial⟩⟩), lok_none (by kernel_rfl)⟩) false (fun x => by kernel_rfl)
noncomputable def anf_Add_o : FOuts (Pat.teleL [.val (.list (.int .u64)), .val (.list (.int .u64))] (MPat.tele [] Unit)) := (.one false (.own 0 1) [(0, ⟨27, 1, .list (.int .u64)⟩)] (List Int) (fun x y => (y, ())))
noncomputable def anf_Add_E (N : Nat) : FE := ⟨24, 0, [.val (.list (.int .u64)), .val (.list (.int .u64))], [], anf_Add_o, fun x => anf_Add N x.1 x.2.1⟩
noncomputable def anf_Add_A (N : Nat) : Ann := { cx := ⟨Tryd.prog, dOf [anf_poly_E N, anf_add_E N], md⟩, fn := 24, inr := false, mm := 0, fuel := 0, tab := [], xk := fun _ _ => [], L := LOf [] }
theorem anf_Add_ok (N : Nat) : FEok Tryd.prog (anf_Add_E N) :=
  fn_ok (A := anf_Add_A N) (pin := [.val (.list (.int .u64)), .val (.list (.int .u64))]) (rin := []) (outs := anf_Add_o) (t := fun x => anf_Add_T N x.1 x.2.1) (dok_of ⟨anf_poly_ok N, ⟨anf_add_ok N, trivial⟩⟩) mixed Tryd.func24 (by kernel_rfl) (tok_fn ⟨(tok_of rfl (by kernel_rfl) trivial), lok_none (by kernel_rfl)⟩) false (fun x => by kernel_rfl)
noncomputable def bautalaw34_AnfValues_o : FOuts (Pat.teleL [.val (.list (.int .u64)), .val (.list (.int .u64)), .val (.int .u64)] (MPat.tele [] Unit)) := (.one false (.val .bool) [] Bool (fun x y => (y, ())))
noncomputable def bautalaw34_AnfValues_E (N : Nat) : FE := ⟨4, 0, [.val (.list (.int .u64)), .val (.list (.int .u64)), .val (.int .u64)], [], bautalaw34_AnfValues_o, fun x => bautalaw34_AnfValues N x.1 x.2.1 x.2.2.1⟩
noncomputable def bautalaw34_AnfValues_A (N : Nat) : Ann := { cx := ⟨Tryd.prog, dOf [bautalaw34_short_E N, anf_Eval_E N, bautaref34_Eval_E N, anf_Mul_E N, anf_Add_E N, bautalaw34_lives_E N], md⟩, fn := 4, inr := false, mm := 0, fuel := 0, tab := [], xk := fun _ _ => [], L := LOf [] }
theorem bautalaw34_AnfValues_ok (N : Nat) : FEok Tryd.prog (bautalaw34_AnfValues_E N) :=
  fn_ok (A := bautalaw34_AnfValues_A N) (pin := [.val (.list (.int .u64)), .val (.list (.int .u64)), .val (.int .u64)]) (rin := []) (outs := bautalaw34_AnfValues_o) (t := fun x => bautalaw34_AnfValues_T N x.1 x.2.1 x.2.2.1) (dok_of ⟨bautalaw34_short_ok N, ⟨anf_Eval_ok N, ⟨bautaref34_Eval_ok N, ⟨anf_Mul_ok N, ⟨anf_Add_ok N, ⟨bautalaw34_lives_ok N, trivial⟩⟩⟩⟩⟩⟩) mixed Tryd.func4 (by kernel_rfl) (tok_fn ⟨(tok_of rfl (by kernel_rfl) trivial), lok_none (by kernel_rfl)⟩) false (fun x => by kernel_rfl)
noncomputable def slices_Clone_2_o : FOuts (Pat.teleL [.val (.list .bool)] (MPat.tele [] Unit)) := (.one false (.own 0 1) [(0, ⟨4, 1, .list .bool⟩)] (List Bool) (fun x y => (y, ())))
noncomputable def slices_Clone_2_E (N : Nat) : FE := ⟨57, 0, [.val (.list .bool)], [], slices_Clone_2_o, fun x => slices_Clone_2 N x.1⟩
noncomputable def slices_Clone_2_A (N : Nat) : Ann := { cx := ⟨Tryd.prog, dOf [], md⟩, fn := 57, inr := false, mm := 0, fuel := 0, tab := [], xk := fun _ _ => [], L := LOf [] }
theorem slices_Clone_2_ok (N : Nat) : FEok Tryd.prog (slices_Clone_2_E N) :=
  fn_ok (A := slices_Clone_2_A N) (pin := [.val (.list .bool)]) (rin := []) (outs := slices_Clone_2_o) (t := fun x => slices_Clone_2_T N x.1) (dok_of trivial) mixed Tryd.func57 (by kernel_rfl) (tok_fn ⟨(tok_of rfl (by kernel_rfl) trivial), lok_none (by kernel_rfl)⟩) false (fun x => by kernel_rfl)
noncomputable def anf_Of_o : FOuts (Pat.teleL [.val (.list .bool)] (MPat.tele [] Unit)) := (.one false (.tup [.own 0 1, .val (.int .i64)]) [(0, ⟨27, 1, .list (.int .u64)⟩)] (Int × (List Int)) (fun x y => (y.1, y.2, ())))
noncomputable def anf_Of_E (N : Nat) : FE := ⟨25, 0, [.val (.list .bool)], [], anf_Of_o, fun x => anf_Of N x.1⟩
noncomputable def anf_Of_xk : Nat → Exit → List Nat
  | 18, .exit 2 => [4, 5, 6]
  | 18, .normal => [4, 5, 6, 34, 35]
  | 12, .exit 0 => [5]
  | 12, .normal => [4, 5, 6]
  | 32, .exit 4 => [8]
  | 32, .normal => [8, 57, 58, 59]
  | 9, .ret => [2, 3]
  | _, _ => []
noncomputable def anf_Of_l9_in : SPat := ⟨[(4, .val (.int .i64)), (0, .own 0 1), (0, .val (.int .i64)), (27, .val (.int .i64)), (0, .val (.int .i64))], 36, [(0, ⟨4, 1, .list .bool⟩)], 1⟩
noncomputable def anf_Of_l9_out : Outs anf_Of_l9_in.X := (.one (.exit 2) ⟨[(4, .val (.int .i64)), (0, .own 0 1), (0, .val (.int .i64))], 65, [(0, ⟨4, 1, .list .bool⟩)], 1⟩ (List Bool) (fun x y => (x.1, x.2.1, y, ())))
noncomputable def anf_Of_l9_e (N : Nat) : TE := ⟨18, anf_Of_l9_in, anf_Of_l9_out, fun x => anf_Of_l9 N x.2.1 x.2.2.1 (x.2.2.2.1, x.2.2.2.2.1)⟩
noncomputable def anf_Of_l6_in : SPat := ⟨[(4, .val (.int .i64)), (0, .own 0 1), (0, .val (.int .i64))], 65, [(0, ⟨4, 1, .list .bool⟩)], 1⟩
noncomputable def anf_Of_l6_out : Outs anf_Of_l6_in.X := (.one (.exit 0) ⟨[(5, .own 0 1)], 66, [(0, ⟨4, 1, .list .bool⟩)], 1⟩ (List Bool) (fun x y => (y, ())))
noncomputable def anf_Of_l6_e (N : Nat) : TE := ⟨12, anf_Of_l6_in, anf_Of_l6_out, fun x => anf_Of_l6 N x.1 (x.2.1, x.2.2.1)⟩
noncomputable def anf_Of_l16_in : SPat := ⟨[(8, .own 0 1), (48, .own 1 1), (0, .val (.int .i64)), (0, .val (.int .i64))], 12, [(0, ⟨27, 1, .list (.int .u64)⟩), (1, ⟨4, 1, .list .bool⟩)], 2⟩
noncomputable def anf_Of_l16_out : Outs anf_Of_l16_in.X := (.one (.exit 4) ⟨[(8, .own 0 1)], 63, [(0, ⟨27, 1, .list (.int .u64)⟩)], 1⟩ (List Int) (fun x y => (y, ())))
noncomputable def anf_Of_l16_e (N : Nat) : TE := ⟨32, anf_Of_l16_in, anf_Of_l16_out, fun x => anf_Of_l16 N x.1 x.2.2.2.1 (x.2.1, x.2.2.1)⟩
noncomputable def anf_Of_j4_in : SPat := ⟨[(0, .val (.list .bool)), (3, .val (.int .i64))], 67, [], 0⟩
noncomputable def anf_Of_j4_out : Outs anf_Of_j4_in.X := (.one (.ret) ⟨[(2, .own 0 1), (0, .val (.int .i64))], 68, [(0, ⟨27, 1, .list (.int .u64)⟩)], 1⟩ (List Int) (fun x y => (0, y, ())))
noncomputable def anf_Of_j4_e (N : Nat) : TE := ⟨9, anf_Of_j4_in, anf_Of_j4_out, fun x => anf_Of_j4 N x.1 x.2.1⟩
noncomputable def anf_Of_A (N : Nat) : Ann := { cx := ⟨Tryd.prog, dOf [slices_Clone_2_E N], md⟩, fn := 25, inr := false, mm := 0, fuel := 0, tab := [(18, [4, 5, 6, 34, 35]), (12, [4, 5, 6]), (32, [8, 57, 58, 59]), (9, [0, 4])], xk := anf_Of_xk, L := LOf [anf_Of_l9_e N, anf_Of_l6_e N, anf_Of_l16_e N, anf_Of_j4_e N] }
theorem anf_Of_l9_ok (N : Nat) : EOK (anf_Of_A N) (anf_Of_l9_e N) ((findCut 18 (Tryd.f25.body.getD .skip)).getD .skip) :=
  loop_ok (pin := anf_Of_l9_in) (outs := anf_Of_l9_out) (V := (Int × (List Bool))) (s := fun x v => anf_Of_l9_T N x.2.1 x.2.2.1 v.1 v.2) (mk := fun x v => (x.1, x.2.1, x.2.2.1, v.1, v.2, ())) (var := fun x => (x.2.2.2.1, x.2.2.2.2.1)) N rfl rfl (fun x => rfl) (fun x v R k => by kernel_rfl)
theorem anf_Of_l6_ok (N : Nat) : EOK (anf_Of_A N) (anf_Of_l6_e N) ((findCut 12 (Tryd.f25.body.getD .skip)).getD .skip) :=
  loop_ok (pin := anf_Of_l6_in) (outs := anf_Of_l6_out) (V := (Int × (List Bool))) (s := fun x v => anf_Of_l6_T N x.1 v.1 v.2) (mk := fun x v => (x.1, v.1, v.2, ())) (var := fun x => (x.2.1, x.2.2.1)) N rfl rfl (fun x => rfl) (fun x v R k => by kernel_rfl)
theorem anf_Of_l16_ok (N : Nat) : EOK (anf_Of_A N) (anf_Of_l16_e N) ((findCut 32 (Tryd.f25.body.getD .skip)).getD .skip) :=
  loop_ok (pin := anf_Of_l16_in) (outs := anf_Of_l16_out) (V := (Int × (List Int))) (s := fun x v => anf_Of_l16_T N x.1 x.2.2.2.1 v.1 v.2) (mk := fun x v => (x.1, v.1, v.2, x.2.2.2.1, ())) (var := fun x => (x.2.1, x.2.2.1)) N rfl rfl (fun x => rfl) (fun x v R k => by kernel_rfl)
theorem anf_Of_j4_ok (N : Nat) : EOK (anf_Of_A N) (anf_Of_j4_e N) ((findCut 9 (Tryd.f25.body.getD .skip)).getD .skip) :=
  join_ok (pin := anf_Of_j4_in) (outs := anf_Of_j4_out) (t := fun x => anf_Of_j4_T N x.1 x.2.1) rfl (fun x R k => by kernel_rfl)
theorem anf_Of_ok (N : Nat) : FEok Tryd.prog (anf_Of_E N) :=
  fn_ok (A := anf_Of_A N) (pin := [.val (.list .bool)]) (rin := []) (outs := anf_Of_o) (t := fun x => anf_Of_T N x.1) (dok_of ⟨slices_Clone_2_ok N, trivial⟩) mixed Tryd.func25 (by kernel_rfl) (tok_fn ⟨(tok_of rfl (by kernel_rfl) ⟨anf_Of_l9_ok N, ⟨anf_Of_l6_ok N, ⟨anf_Of_l16_ok N, ⟨anf_Of_j4_ok N, trivial⟩⟩⟩⟩), lok_none (by kernel_rfl)⟩) false (fun x => by kernel_rfl)
noncomputable def bautaref34_Of_o : FOuts (Pat.teleL [.val (.list .bool)] (MPat.tele [] Unit)) := (.one false (.tup [.own 0 1, .val (.int .i64)]) [(0, ⟨27, 1, .list (.int .u64)⟩)] (Int × (List Int)) (fun x y => (y.1, y.2, ())))
noncomputable def bautaref34_Of_E (N : Nat) : FE := ⟨26, 0, [.val (.list .bool)], [], bautaref34_Of_o, fun x => bautaref34_Of N x.1⟩
noncomputable def bautaref34_Of_xk : Nat → Exit → List Nat
  | 6, .exit 0 => [0, 5]
  | 6, .normal => [0, 4, 5, 6]
  | 30, .exit 4 => [0, 7, 8, 9]
  | 30, .normal => [0, 7, 8, 9, 10]
  | 22, .exit 2 => [7]
  | 22, .normal => [0, 7, 8]
  | _, _ => []
noncomputable def bautaref34_Of_l3_in : SPat := ⟨[(0, .val (.list .bool)), (3, .val (.int .i64)), (0, .val .bool), (0, .val (.int .i64))], 52, [], 0⟩
noncomputable def bautaref34_Of_l3_out : Outs bautaref34_Of_l3_in.X := (.one (.exit 0) ⟨[(0, .val (.list .bool)), (4, .val .bool)], 53, [], 0⟩ Bool (fun x y => (x.1, y, ())))
noncomputable def bautaref34_Of_l3_e (N : Nat) : TE := ⟨6, bautaref34_Of_l3_in, bautaref34_Of_l3_out, fun x => bautaref34_Of_l3 N x.1 (x.2.1, x.2.2.1, x.2.2.2.1)⟩
noncomputable def bautaref34_Of_l15_in : SPat := ⟨[(0, .val (.list .bool)), (6, .own 0 1), (0, .val (.int .i64)), (0, .val .bool), (0, .val (.int .i64))], 48, [(0, ⟨27, 1, .list (.int .u64)⟩)], 1⟩
noncomputable def bautaref34_Of_l15_out : Outs bautaref34_Of_l15_in.X := (.one (.exit 4) ⟨[(0, .val (.list .bool)), (6, .own 0 1), (0, .val (.int .i64)), (0, .val .bool)], 49, [(0, ⟨27, 1, .list (.int .u64)⟩)], 1⟩ Bool (fun x y => (x.1, x.2.1, y, x.2.2.2.2.1, ())))
noncomputable def bautaref34_Of_l15_e (N : Nat) : TE := ⟨30, bautaref34_Of_l15_in, bautaref34_Of_l15_out, fun x => bautaref34_Of_l15 N x.1 x.2.1 (x.2.2.1, x.2.2.2.1)⟩
noncomputable def bautaref34_Of_l11_in : SPat := ⟨[(0, .val (.list .bool)), (6, .own 0 1), (0, .val (.int .i64))], 50, [(0, ⟨27, 1, .list (.int .u64)⟩)], 1⟩
noncomputable def bautaref34_Of_l11_out : Outs bautaref34_Of_l11_in.X := (.one (.exit 2) ⟨[(7, .own 0 1)], 51, [(0, ⟨27, 1, .list (.int .u64)⟩)], 1⟩ (List Int) (fun x y => (y, ())))
noncomputable def bautaref34_Of_l11_e (N : Nat) : TE := ⟨22, bautaref34_Of_l11_in, bautaref34_Of_l11_out, fun x => bautaref34_Of_l11 N x.1 (x.2.1, x.2.2.1)⟩
noncomputable def bautaref34_Of_A (N : Nat) : Ann := { cx := ⟨Tryd.prog, dOf [], md⟩, fn := 26, inr := false, mm := 0, fuel := 0, tab := [(6, [0, 4, 5, 6]), (30, [0, 7, 8, 9, 10]), (22, [0, 7, 8])], xk := bautaref34_Of_xk, L := LOf [bautaref34_Of_l3_e N, bautaref34_Of_l15_e N, bautaref34_Of_l11_e N] }
theorem bautaref34_Of_l3_ok (N : Nat) : EOK (bautaref34_Of_A N) (bautaref34_Of_l3_e N) ((findCut 6 (Tryd.f26.body.getD .skip)).getD .skip) :=
  loop_ok (pin := bautaref34_Of_l3_in) (outs := bautaref34_Of_l3_out) (V := (Int × Bool × Int)) (s := fun x v => bautaref34_Of_l3_T N x.1 v.1 v.2.1 v.2.2) (mk := fun x v => (x.1, v.1, v.2.1, v.2.2, ())) (var := fun x => (x.2.1, x.2.2.1, x.2.2.2.1)) N rfl rfl (fun x => rfl) (fun x v R k => by kernel_rfl)
theorem bautaref34_Of_l15_ok (N : Nat) : EOK (bautaref34_Of_A N) (bautaref34_Of_l15_e N) ((findCut 30 (Tryd.f26.body.getD .skip)).getD .skip) :=
  loop_ok (pin := bautaref34_Of_l15_in) (outs := bautaref34_Of_l15_out) (V := (Bool × Int)) (s := fun x v => bautaref34_Of_l15_T N x.1 x.2.1 v.1 v.2) (mk := fun x v => (x.1, x.2.1, v.1, v.2, x.2.2.2.2.1, ())) (var := fun x => (x.2.2.1, x.2.2.2.1)) N rfl rfl (fun x => rfl) (fun x v R k => by kernel_rfl)
theorem bautaref34_Of_l11_ok (N : Nat) : EOK (bautaref34_Of_A N) (bautaref34_Of_l11_e N) ((findCut 22 (Tryd.f26.body.getD .skip)).getD .skip) :=
  loop_ok (pin := bautaref34_Of_l11_in) (outs := bautaref34_Of_l11_out) (V := (Int × (List Int))) (s := fun x v => bautaref34_Of_l11_T N x.1 v.1 v.2) (mk := fun x v => (x.1, v.1, v.2, ())) (var := fun x => (x.2.1, x.2.2.1)) N rfl rfl (fun x => rfl) (fun x v R k => by kernel_rfl)
theorem bautaref34_Of_ok (N : Nat) : FEok Tryd.prog (bautaref34_Of_E N) :=
  fn_ok (A := bautaref34_Of_A N) (pin := [.val (.list .bool)]) (rin := []) (outs := bautaref34_Of_o) (t := fun x => bautaref34_Of_T N x.1) (dok_of trivial) mixed Tryd.func26 (by kernel_rfl) (tok_fn ⟨(tok_of rfl (by kernel_rfl) ⟨bautaref34_Of_l3_ok N, ⟨bautaref34_Of_l15_ok N, ⟨bautaref34_Of_l11_ok N, trivial⟩⟩⟩), lok_none (by kernel_rfl)⟩) false (fun x => by kernel_rfl)
noncomputable def bautalaw34_AnfTables_o : FOuts (Pat.teleL [.val (.list .bool)] (MPat.tele [] Unit)) := (.one false (.val .bool) [] Bool (fun x y => (y, ())))
noncomputable def bautalaw34_AnfTables_E (N : Nat) : FE := ⟨5, 0, [.val (.list .bool)], [], bautalaw34_AnfTables_o, fun x => bautalaw34_AnfTables N x.1⟩
noncomputable def bautalaw34_AnfTables_xk : Nat → Exit → List Nat
  | 25, .ret => [2]
  | 25, .normal => [0, 3, 4, 7]
  | 20, .ret => [2]
  | 20, .exit 0 => []
  | 20, .normal => [0, 3, 4, 7]
  | 19, .ret => [2]
  | 7, .ret => [2]
  | _, _ => []
noncomputable def bautalaw34_AnfTables_j12_in : SPat := ⟨[(0, .val (.list .bool)), (2, .own 0 1), (0, .val (.int .i64)), (2, .val (.int .i64))], 63, [(0, ⟨27, 1, .list (.int .u64)⟩)], 1⟩
noncomputable def bautalaw34_AnfTables_j12_out : Outs bautalaw34_AnfTables_j12_in.X := (.or (.ret) ⟨[(2, .val .bool)], 68, [], 0⟩ Unit (fun x y => (false, ())) (.one (.normal) ⟨[(0, .val (.list .bool)), (2, .own 0 1), (0, .val (.int .i64)), (2, .val (.int .i64))], 63, [(0, ⟨27, 1, .list (.int .u64)⟩)], 1⟩ Int (fun x y => (x.1, x.2.1, y, x.2.2.2.1, ()))))
noncomputable def bautalaw34_AnfTables_j12_e (N : Nat) : TE := ⟨25, bautalaw34_AnfTables_j12_in, bautalaw34_AnfTables_j12_out, fun x => bautalaw34_AnfTables_j12 N x.1 x.2.2.1 x.2.2.2.1⟩
noncomputable def bautalaw34_AnfTables_l10_in : SPat := ⟨[(0, .val (.list .bool)), (2, .own 0 1), (0, .val (.int .i64)), (2, .val (.int .i64))], 63, [(0, ⟨27, 1, .list (.int .u64)⟩)], 1⟩
noncomputable def bautalaw34_AnfTables_l10_out : Outs bautalaw34_AnfTables_l10_in.X := (.or (.ret) ⟨[(2, .val .bool)], 68, [], 0⟩ Unit (fun x y => (false, ())) (.one (.exit 0) ⟨[], 71, [], 0⟩ Unit (fun x y => ())))
noncomputable def bautalaw34_AnfTables_l10_e (N : Nat) : TE := ⟨20, bautalaw34_AnfTables_l10_in, bautalaw34_AnfTables_l10_out, fun x => bautalaw34_AnfTables_l10 N x.1 x.2.1 x.2.2.2.1 x.2.2.1⟩
noncomputable def bautalaw34_AnfTables_j9_in : SPat := ⟨[(0, .val (.list .bool)), (2, .own 0 1), (0, .val (.int .i64))], 66, [(0, ⟨27, 1, .list (.int .u64)⟩)], 1⟩
noncomputable def bautalaw34_AnfTables_j9_out : Outs bautalaw34_AnfTables_j9_in.X := (.one (.ret) ⟨[(2, .val .bool)], 68, [], 0⟩ Bool (fun x y => (y, ())))
noncomputable def bautalaw34_AnfTables_j9_e (N : Nat) : TE := ⟨19, bautalaw34_AnfTables_j9_in, bautalaw34_AnfTables_j9_out, fun x => bautalaw34_AnfTables_j9 N x.1 x.2.1 x.2.2.1⟩
noncomputable def bautalaw34_AnfTables_j3_in : SPat := ⟨[(0, .val (.list .bool))], 70, [], 0⟩
noncomputable def bautalaw34_AnfTables_j3_out : Outs bautalaw34_AnfTables_j3_in.X := (.one (.ret) ⟨[(2, .val .bool)], 68, [], 0⟩ Bool (fun x y => (y, ())))
noncomputable def bautalaw34_AnfTables_j3_e (N : Nat) : TE := ⟨7, bautalaw34_AnfTables_j3_in, bautalaw34_AnfTables_j3_out, fun x => bautalaw34_AnfTables_j3 N x.1⟩
noncomputable def bautalaw34_AnfTables_A (N : Nat) : Ann := { cx := ⟨Tryd.prog, dOf [bautalaw34_lives_E N, anf_Of_E N, bautaref34_Of_E N, bautaref34_Same_E N, anf_Eval_E N], md⟩, fn := 5, inr := false, mm := 0, fuel := 0, tab := [(25, [0, 3, 4, 7]), (20, [0, 3, 4, 7]), (19, [0, 3, 4]), (7, [0])], xk := bautalaw34_AnfTables_xk, L := LOf [bautalaw34_AnfTables_j12_e N, bautalaw34_AnfTables_l10_e N, bautalaw34_AnfTables_j9_e N, bautalaw34_AnfTables_j3_e N] }
theorem bautalaw34_AnfTables_j12_ok (N : Nat) : EOK (bautalaw34_AnfTables_A N) (bautalaw34_AnfTables_j12_e N) ((findCut 25 (Tryd.f5.body.getD .skip)).getD .skip) :=
  join_ok (pin := bautalaw34_AnfTables_j12_in) (outs := bautalaw34_AnfTables_j12_out) (t := fun x => bautalaw34_AnfTables_j12_T N x.1 x.2.2.1 x.2.2.2.1) rfl (fun x R k => by kernel_rfl)
theorem bautalaw34_AnfTables_l10_ok (N : Nat) : EOK (bautalaw34_AnfTables_A N) (bautalaw34_AnfTables_l10_e N) ((findCut 20 (Tryd.f5.body.getD .skip)).getD .skip) :=
  loop_ok (pin := bautalaw34_AnfTables_l10_in) (outs := bautalaw34_AnfTables_l10_out) (V := Int) (s := fun x v => bautalaw34_AnfTables_l10_T N x.1 x.2.1 x.2.2.2.1 v) (mk := fun x v => (x.1, x.2.1, v, x.2.2.2.1, ())) (var := fun x => x.2.2.1) N rfl rfl (fun x => rfl) (fun x v R k => by kernel_rfl)
theorem bautalaw34_AnfTables_j9_ok (N : Nat) : EOK (bautalaw34_AnfTables_A N) (bautalaw34_AnfTables_j9_e N) ((findCut 19 (Tryd.f5.body.getD .skip)).getD .skip) :=
  join_ok (pin := bautalaw34_AnfTables_j9_in) (outs := bautalaw34_AnfTables_j9_out) (t := fun x => bautalaw34_AnfTables_j9_T N x.1 x.2.1 x.2.2.1) rfl (fun x R k => by kernel_rfl)
theorem bautalaw34_AnfTables_j3_ok (N : Nat) : EOK (bautalaw34_AnfTables_A N) (bautalaw34_AnfTables_j3_e N) ((findCut 7 (Tryd.f5.body.getD .skip)).getD .skip) :=
  join_ok (pin := bautalaw34_AnfTables_j3_in) (outs := bautalaw34_AnfTables_j3_out) (t := fun x => bautalaw34_AnfTables_j3_T N x.1) rfl (fun x R k => by kernel_rfl)
theorem bautalaw34_AnfTables_ok (N : Nat) : FEok Tryd.prog (bautalaw34_AnfTables_E N) :=
  fn_ok (A := bautalaw34_AnfTables_A N) (pin := [.val (.list .bool)]) (rin := []) (outs := bautalaw34_AnfTables_o) (t := fun x => bautalaw34_AnfTables_T N x.1) (dok_of ⟨bautalaw34_lives_ok N, ⟨anf_Of_ok N, ⟨bautaref34_Of_ok N, ⟨bautaref34_Same_ok N, ⟨anf_Eval_ok N, trivial⟩⟩⟩⟩⟩) mixed Tryd.func5 (by kernel_rfl) (tok_fn ⟨(tok_of rfl (by kernel_rfl) ⟨bautalaw34_AnfTables_j12_ok N, ⟨bautalaw34_AnfTables_l10_ok N, ⟨bautalaw34_AnfTables_j9_ok N, ⟨bautalaw34_AnfTables_j3_ok N, trivial⟩⟩⟩⟩), lok_none (by kernel_rfl)⟩) false (fun x => by kernel_rfl)
noncomputable def bautaref34_Mul_o : FOuts (Pat.teleL [.val (.list (.int .u64)), .val (.list (.int .u64))] (MPat.tele [] Unit)) := (.one false (.tup [.own 0 1, .val (.int .i64)]) [(0, ⟨27, 1, .list (.int .u64)⟩)] (Int × (List Int)) (fun x y => (y.1, y.2, ())))
noncomputable def bautaref34_Mul_E (N : Nat) : FE := ⟨27, 0, [.val (.list (.int .u64)), .val (.list (.int .u64))], [], bautaref34_Mul_o, fun x => bautaref34_Mul N x.1 x.2.1⟩
noncomputable def bautaref34_Mul_xk : Nat → Exit → List Nat
  | 18, .exit 2 => [0, 1, 6, 7]
  | 18, .normal => [0, 1, 6, 7, 8]
  | 12, .exit 0 => [6]
  | 12, .normal => [0, 1, 6, 7]
  | _, _ => []
noncomputable def bautaref34_Mul_l9_in : SPat := ⟨[(0, .own 0 1), (0, .own 1 1), (4, .own 2 1), (0, .val (.int .i64)), (0, .val (.int .i64))], 40, [(0, ⟨27, 1, .list (.int .u64)⟩), (1, ⟨27, 1, .list (.int .u64)⟩), (2, ⟨27, 1, .list (.int .u64)⟩)], 3⟩
noncomputable def bautaref34_Mul_l9_out : Outs bautaref34_Mul_l9_in.X := (.one (.exit 2) ⟨[(0, .own 0 1), (0, .own 1 1), (4, .own 2 1), (0, .val (.int .i64))], 41, [(0, ⟨27, 1, .list (.int .u64)⟩), (1, ⟨27, 1, .list (.int .u64)⟩), (2, ⟨27, 1, .list (.int .u64)⟩)], 3⟩ (List Int) (fun x y => (x.1, x.2.2.1, x.2.2.2.1, y, ())))
noncomputable def bautaref34_Mul_l9_e (N : Nat) : TE := ⟨18, bautaref34_Mul_l9_in, bautaref34_Mul_l9_out, fun x => bautaref34_Mul_l9 N x.1 x.2.2.1 x.2.2.2.1 (x.2.1, x.2.2.2.2.1)⟩
noncomputable def bautaref34_Mul_l6_in : SPat := ⟨[(0, .own 0 1), (0, .own 1 1), (4, .own 2 1), (0, .val (.int .i64))], 41, [(0, ⟨27, 1, .list (.int .u64)⟩), (1, ⟨27, 1, .list (.int .u64)⟩), (2, ⟨27, 1, .list (.int .u64)⟩)], 3⟩
noncomputable def bautaref34_Mul_l6_out : Outs bautaref34_Mul_l6_in.X := (.one (.exit 0) ⟨[(6, .own 0 1)], 42, [(0, ⟨27, 1, .list (.int .u64)⟩)], 1⟩ (List Int) (fun x y => (y, ())))
noncomputable def bautaref34_Mul_l6_e (N : Nat) : TE := ⟨12, bautaref34_Mul_l6_in, bautaref34_Mul_l6_out, fun x => bautaref34_Mul_l6 N x.2.1 x.2.2.1 (x.1, x.2.2.2.1)⟩
noncomputable def bautaref34_Mul_A (N : Nat) : Ann := { cx := ⟨Tryd.prog, dOf [bautaref34_Make_E N, bautaref34_put_E N], md⟩, fn := 27, inr := false, mm := 0, fuel := 0, tab := [(18, [0, 1, 6, 7, 8]), (12, [0, 1, 6, 7])], xk := bautaref34_Mul_xk, L := LOf [bautaref34_Mul_l9_e N, bautaref34_Mul_l6_e N] }
theorem bautaref34_Mul_l9_ok (N : Nat) : EOK (bautaref34_Mul_A N) (bautaref34_Mul_l9_e N) ((findCut 18 (Tryd.f27.body.getD .skip)).getD .skip) :=
  loop_ok (pin := bautaref34_Mul_l9_in) (outs := bautaref34_Mul_l9_out) (V := (Int × (List Int))) (s := fun x v => bautaref34_Mul_l9_T N x.1 x.2.2.1 x.2.2.2.1 v.1 v.2) (mk := fun x v => (x.1, v.1, x.2.2.1, x.2.2.2.1, v.2, ())) (var := fun x => (x.2.1, x.2.2.2.2.1)) N rfl rfl (fun x => rfl) (fun x v R k => by kernel_rfl)
theorem bautaref34_Mul_l6_ok (N : Nat) : EOK (bautaref34_Mul_A N) (bautaref34_Mul_l6_e N) ((findCut 12 (Tryd.f27.body.getD .skip)).getD .skip) :=
  loop_ok (pin := bautaref34_Mul_l6_in) (outs := bautaref34_Mul_l6_out) (V := (Int × (List Int))) (s := fun x v => bautaref34_Mul_l6_T N x.2.1 x.2.2.1 v.1 v.2) (mk := fun x v => (v.1, x.2.1, x.2.2.1, v.2, ())) (var := fun x => (x.1, x.2.2.2.1)) N rfl rfl (fun x => rfl) (fun x v R k => by kernel_rfl)
theorem bautaref34_Mul_ok (N : Nat) : FEok Tryd.prog (bautaref34_Mul_E N) :=
  fn_ok (A := bautaref34_Mul_A N) (pin := [.val (.list (.int .u64)), .val (.list (.int .u64))]) (rin := []) (outs := bautaref34_Mul_o) (t := fun x => bautaref34_Mul_T N x.1 x.2.1) (dok_of ⟨bautaref34_Make_ok N, ⟨bautaref34_put_ok N, trivial⟩⟩) mixed Tryd.func27 (by kernel_rfl) (tok_fn ⟨(tok_of rfl (by kernel_rfl) ⟨bautaref34_Mul_l9_ok N, ⟨bautaref34_Mul_l6_ok N, trivial⟩⟩), lok_none (by kernel_rfl)⟩) false (fun x => by kernel_rfl)
noncomputable def bautaref34_Add_o : FOuts (Pat.teleL [.val (.list (.int .u64)), .val (.list (.int .u64))] (MPat.tele [] Unit)) := (.one false (.own 0 1) [(0, ⟨27, 1, .list (.int .u64)⟩)] (List Int) (fun x y => (y, ())))
noncomputable def bautaref34_Add_E (N : Nat) : FE := ⟨28, 0, [.val (.list (.int .u64)), .val (.list (.int .u64))], [], bautaref34_Add_o, fun x => bautaref34_Add N x.1 x.2.1⟩
noncomputable def bautaref34_Add_A (N : Nat) : Ann := { cx := ⟨Tryd.prog, dOf [bautaref34_Make_E N], md⟩, fn := 28, inr := false, mm := 0, fuel := 0, tab := [], xk := fun _ _ => [], L := LOf [] }
theorem bautaref34_Add_ok (N : Nat) : FEok Tryd.prog (bautaref34_Add_E N) :=
  fn_ok (A := bautaref34_Add_A N) (pin := [.val (.list (.int .u64)), .val (.list (.int .u64))]) (rin := []) (outs := bautaref34_Add_o) (t := fun x => bautaref34_Add_T N x.1 x.2.1) (dok_of ⟨bautaref34_Make_ok N, trivial⟩) mixed Tryd.func28 (by kernel_rfl) (tok_fn ⟨(tok_of rfl (by kernel_rfl) trivial), lok_none (by kernel_rfl)⟩) false (fun x => by kernel_rfl)
noncomputable def bits_OnesCount64_o : FOuts (Pat.teleL [.val (.int .u64)] (MPat.tele [] Unit)) := (.one false (.val (.int .i64)) [] Int (fun x y => (y, ())))
noncomputable def bits_OnesCount64_E (N : Nat) : FE := ⟨58, 0, [.val (.int .u64)], [], bits_OnesCount64_o, fun x => bits_OnesCount64 N x.1⟩
noncomputable def bits_OnesCount64_A (N : Nat) : Ann := { cx := ⟨Tryd.prog, dOf [], md⟩, fn := 58, inr := false, mm := 0, fuel := 0, tab := [], xk := fun _ _ => [], L := LOf [] }
theorem bits_OnesCount64_ok (N : Nat) : FEok Tryd.prog (bits_OnesCount64_E N) :=
  fn_ok (A := bits_OnesCount64_A N) (pin := [.val (.int .u64)]) (rin := []) (outs := bits_OnesCount64_o) (t := fun x => bits_OnesCount64_T N x.1) (dok_of trivial) mixed Tryd.func58 (by kernel_rfl) (tok_fn ⟨(tok_of rfl (by kernel_rfl) trivial), lok_none (by kernel_rfl)⟩) false (fun x => by kernel_rfl)
noncomputable def anf_Degree_o : FOuts (Pat.teleL [.val (.list (.int .u64))] (MPat.tele [] Unit)) := (.one false (.val (.int .i64)) [] Int (fun x y => (y, ())))
noncomputable def anf_Degree_E (N : Nat) : FE := ⟨29, 0, [.val (.list (.int .u64))], [], anf_Degree_o, fun x => anf_Degree N x.1⟩
noncomputable def anf_Degree_xk : Nat → Exit → List Nat
  | 6, .exit 0 => [3]
  | 6, .normal => [3, 7, 8, 9]
  | _, _ => []
noncomputable def anf_Degree_l3_in : SPat := ⟨[(3, .val (.int .i64)), (3, .val (.list (.int .u64))), (0, .val (.int .i64)), (0, .val (.int .i64))], 9, [], 0⟩
noncomputable def anf_Degree_l3_out : Outs anf_Degree_l3_in.X := (.one (.exit 0) ⟨[(3, .val (.int .i64))], 15, [], 0⟩ Int (fun x y => (y, ())))
noncomputable def anf_Degree_l3_e (N : Nat) : TE := ⟨6, anf_Degree_l3_in, anf_Degree_l3_out, fun x => anf_Degree_l3 N x.2.1 x.2.2.1 (x.1, x.2.2.2.1)⟩
noncomputable def anf_Degree_l3b_in : SPat := ⟨[(3, .val (.int .i64)), (3, .sl 0 1), (0, .val (.int .i64)), (0, .val (.int .i64))], 9, [(0, ⟨27, 1, .list (.int .u64)⟩)], 1⟩
noncomputable def anf_Degree_l3b_out : Outs anf_Degree_l3b_in.X := (.one (.exit 0) ⟨[(3, .val (.int .i64))], 15, [], 0⟩ Int (fun x y => (y, ())))
noncomputable def anf_Degree_l3b_e (N : Nat) : TE := ⟨6, anf_Degree_l3b_in, anf_Degree_l3b_out, fun x => anf_Degree_l3b N x.2.1 x.2.2.1 x.2.2.2.1 x.2.2.2.2.2.1 (x.1, x.2.2.2.2.1)⟩
noncomputable def anf_Degree_A (N : Nat) : Ann := { cx := ⟨Tryd.prog, dOf [anf_poly_E N, bits_OnesCount64_E N], md⟩, fn := 29, inr := false, mm := 0, fuel := 0, tab := [(6, [3, 7, 8, 9])], xk := anf_Degree_xk, L := LOf [anf_Degree_l3_e N, anf_Degree_l3b_e N] }
theorem anf_Degree_l3_ok (N : Nat) : EOK (anf_Degree_A N) (anf_Degree_l3_e N) ((findCut 6 (Tryd.f29.body.getD .skip)).getD .skip) :=
  loop_ok (pin := anf_Degree_l3_in) (outs := anf_Degree_l3_out) (V := (Int × Int)) (s := fun x v => anf_Degree_l3_T N x.2.1 x.2.2.1 v.1 v.2) (mk := fun x v => (v.1, x.2.1, x.2.2.1, v.2, ())) (var := fun x => (x.1, x.2.2.2.1)) N rfl rfl (fun x => rfl) (fun x v R k => by kernel_rfl)
theorem anf_Degree_l3b_ok (N : Nat) : EOK (anf_Degree_A N) (anf_Degree_l3b_e N) ((findCut 6 (Tryd.f29.body.getD .skip)).getD .skip) :=
  loop_ok (pin := anf_Degree_l3b_in) (outs := anf_Degree_l3b_out) (V := (Int × Int)) (s := fun x v => anf_Degree_l3b_T N x.2.1 x.2.2.1 x.2.2.2.1 x.2.2.2.2.2.1 v.1 v.2) (mk := fun x v => (v.1, x.2.1, x.2.2.1, x.2.2.2.1, v.2, x.2.2.2.2.2.1, ())) (var := fun x => (x.1, x.2.2.2.2.1)) N rfl rfl (fun x => rfl) (fun x v R k => by kernel_rfl)
theorem anf_Degree_ok (N : Nat) : FEok Tryd.prog (anf_Degree_E N) :=
  fn_ok (A := anf_Degree_A N) (pin := [.val (.list (.int .u64))]) (rin := []) (outs := anf_Degree_o) (t := fun x => anf_Degree_T N x.1) (dok_of ⟨anf_poly_ok N, ⟨bits_OnesCount64_ok N, trivial⟩⟩) mixed Tryd.func29 (by kernel_rfl) (tok_fn ⟨(tok_of rfl (by kernel_rfl) ⟨anf_Degree_l3_ok N, ⟨anf_Degree_l3b_ok N, trivial⟩⟩), lok_none (by kernel_rfl)⟩) false (fun x => by kernel_rfl)
noncomputable def bautaref34_Degree_o : FOuts (Pat.teleL [.val (.list (.int .u64))] (MPat.tele [] Unit)) := (.one false (.val (.int .i64)) [] Int (fun x y => (y, ())))
noncomputable def bautaref34_Degree_E (N : Nat) : FE := ⟨30, 0, [.val (.list (.int .u64))], [], bautaref34_Degree_o, fun x => bautaref34_Degree N x.1⟩
noncomputable def bautaref34_Degree_xk : Nat → Exit → List Nat
  | 14, .exit 2 => [3, 4, 5, 6]
  | 14, .normal => [3, 4, 5, 6, 7]
  | 6, .exit 0 => [3]
  | 6, .normal => [3, 4, 5]
  | _, _ => []
noncomputable def bautaref34_Degree_l7_in : SPat := ⟨[(3, .val (.int .i64)), (0, .own 0 1), (0, .val (.int .i64)), (0, .val (.int .i64)), (0, .val (.int .i64))], 25, [(0, ⟨27, 1, .list (.int .u64)⟩)], 1⟩
noncomputable def bautaref34_Degree_l7_out : Outs bautaref34_Degree_l7_in.X := (.one (.exit 2) ⟨[(3, .val (.int .i64)), (0, .own 0 1), (0, .val (.int .i64)), (0, .val (.int .i64))], 26, [(0, ⟨27, 1, .list (.int .u64)⟩)], 1⟩ Int (fun x y => (x.1, x.2.1, y, x.2.2.2.2.1, ())))
noncomputable def bautaref34_Degree_l7_e (N : Nat) : TE := ⟨14, bautaref34_Degree_l7_in, bautaref34_Degree_l7_out, fun x => bautaref34_Degree_l7 N x.2.1 x.2.2.2.2.1 (x.2.2.1, x.2.2.2.1)⟩
noncomputable def bautaref34_Degree_l3_in : SPat := ⟨[(3, .val (.int .i64)), (0, .own 0 1), (0, .val (.int .i64))], 27, [(0, ⟨27, 1, .list (.int .u64)⟩)], 1⟩
noncomputable def bautaref34_Degree_l3_out : Outs bautaref34_Degree_l3_in.X := (.one (.exit 0) ⟨[(3, .val (.int .i64))], 29, [], 0⟩ Int (fun x y => (y, ())))
noncomputable def bautaref34_Degree_l3_e (N : Nat) : TE := ⟨6, bautaref34_Degree_l3_in, bautaref34_Degree_l3_out, fun x => bautaref34_Degree_l3 N x.2.2.1 (x.1, x.2.1)⟩
noncomputable def bautaref34_Degree_A (N : Nat) : Ann := { cx := ⟨Tryd.prog, dOf [bautaref34_Make_E N, bautaref34_bit_E N], md⟩, fn := 30, inr := false, mm := 0, fuel := 0, tab := [(14, [3, 4, 5, 6, 7]), (6, [3, 4, 5])], xk := bautaref34_Degree_xk, L := LOf [bautaref34_Degree_l7_e N, bautaref34_Degree_l3_e N] }
theorem bautaref34_Degree_l7_ok (N : Nat) : EOK (bautaref34_Degree_A N) (bautaref34_Degree_l7_e N) ((findCut 14 (Tryd.f30.body.getD .skip)).getD .skip) :=
  loop_ok (pin := bautaref34_Degree_l7_in) (outs := bautaref34_Degree_l7_out) (V := (Int × Int)) (s := fun x v => bautaref34_Degree_l7_T N x.2.1 x.2.2.2.2.1 v.1 v.2) (mk := fun x v => (x.1, x.2.1, v.1, v.2, x.2.2.2.2.1, ())) (var := fun x => (x.2.2.1, x.2.2.2.1)) N rfl rfl (fun x => rfl) (fun x v R k => by kernel_rfl)
theorem bautaref34_Degree_l3_ok (N : Nat) : EOK (bautaref34_Degree_A N) (bautaref34_Degree_l3_e N) ((findCut 6 (Tryd.f30.body.getD .skip)).getD .skip) :=
  loop_ok (pin := bautaref34_Degree_l3_in) (outs := bautaref34_Degree_l3_out) (V := (Int × Int)) (s := fun x v => bautaref34_Degree_l3_T N x.2.2.1 v.1 v.2) (mk := fun x v => (v.1, v.2, x.2.2.1, ())) (var := fun x => (x.1, x.2.1)) N rfl rfl (fun x => rfl) (fun x v R k => by kernel_rfl)
theorem bautaref34_Degree_ok (N : Nat) : FEok Tryd.prog (bautaref34_Degree_E N) :=
  fn_ok (A := bautaref34_Degree_A N) (pin := [.val (.list (.int .u64))]) (rin := []) (outs := bautaref34_Degree_o) (t := fun x => bautaref34_Degree_T N x.1) (dok_of ⟨bautaref34_Make_ok N, ⟨bautaref34_bit_ok N, trivial⟩⟩) mixed Tryd.func30 (by kernel_rfl) (tok_fn ⟨(tok_of rfl (by kernel_rfl) ⟨bautaref34_Degree_l7_ok N, ⟨bautaref34_Degree_l3_ok N, trivial⟩⟩), lok_none (by kernel_rfl)⟩) false (fun x => by kernel_rfl)
noncomputable def anf_Vars_o : FOuts (Pat.teleL [.val (.list (.int .u64))] (MPat.tele [] Unit)) := (.one false (.val (.int .u64)) [] Int (fun x y => (y, ())))
noncomputable def anf_Vars_E (N : Nat) : FE := ⟨31, 0, [.val (.list (.int .u64))], [], anf_Vars_o, fun x => anf_Vars N x.1⟩
noncomputable def anf_Vars_xk : Nat → Exit → List Nat
  | 6, .exit 0 => [3]
  | 6, .normal => [3, 7, 8, 9]
  | _, _ => []
noncomputable def anf_Vars_l3_in : SPat := ⟨[(3, .val (.int .u64)), (3, .val (.list (.int .u64))), (0, .val (.int .i64)), (0, .val (.int .i64))], 8, [], 0⟩
noncomputable def anf_Vars_l3_out : Outs anf_Vars_l3_in.X := (.one (.exit 0) ⟨[(3, .val (.int .u64))], 14, [], 0⟩ Int (fun x y => (y, ())))
noncomputable def anf_Vars_l3_e (N : Nat) : TE := ⟨6, anf_Vars_l3_in, anf_Vars_l3_out, fun x => anf_Vars_l3 N x.2.1 x.2.2.1 (x.1, x.2.2.2.1)⟩
noncomputable def anf_Vars_l3b_in : SPat := ⟨[(3, .val (.int .u64)), (3, .sl 0 1), (0, .val (.int .i64)), (0, .val (.int .i64))], 8, [(0, ⟨27, 1, .list (.int .u64)⟩)], 1⟩
noncomputable def anf_Vars_l3b_out : Outs anf_Vars_l3b_in.X := (.one (.exit 0) ⟨[(3, .val (.int .u64))], 14, [], 0⟩ Int (fun x y => (y, ())))
noncomputable def anf_Vars_l3b_e (N : Nat) : TE := ⟨6, anf_Vars_l3b_in, anf_Vars_l3b_out, fun x => anf_Vars_l3b N x.2.1 x.2.2.1 x.2.2.2.1 x.2.2.2.2.2.1 (x.1, x.2.2.2.2.1)⟩
noncomputable def anf_Vars_A (N : Nat) : Ann := { cx := ⟨Tryd.prog, dOf [anf_poly_E N], md⟩, fn := 31, inr := false, mm := 0, fuel := 0, tab := [(6, [3, 7, 8, 9])], xk := anf_Vars_xk, L := LOf [anf_Vars_l3_e N, anf_Vars_l3b_e N] }
theorem anf_Vars_l3_ok (N : Nat) : EOK (anf_Vars_A N) (anf_Vars_l3_e N) ((findCut 6 (Tryd.f31.body.getD .skip)).getD .skip) :=
  loop_ok (pin := anf_Vars_l3_in) (outs := anf_Vars_l3_out) (V := (Int × Int)) (s := fun x v => anf_Vars_l3_T N x.2.1 x.2.2.1 v.1 v.2) (mk := fun x v => (v.1, x.2.1, x.2.2.1, v.2, ())) (var := fun x => (x.1, x.2.2.2.1)) N rfl rfl (fun x => rfl) (fun x v R k => by kernel_rfl)
theorem anf_Vars_l3b_ok (N : Nat) : EOK (anf_Vars_A N) (anf_Vars_l3b_e N) ((findCut 6 (Tryd.f31.body.getD .skip)).getD .skip) :=
  loop_ok (pin := anf_Vars_l3b_in) (outs := anf_Vars_l3b_out) (V := (Int × Int)) (s := fun x v => anf_Vars_l3b_T N x.2.1 x.2.2.1 x.2.2.2.1 x.2.2.2.2.2.1 v.1 v.2) (mk := fun x v => (v.1, x.2.1, x.2.2.1, x.2.2.2.1, v.2, x.2.2.2.2.2.1, ())) (var := fun x => (x.1, x.2.2.2.2.1)) N rfl rfl (fun x => rfl) (fun x v R k => by kernel_rfl)
theorem anf_Vars_ok (N : Nat) : FEok Tryd.prog (anf_Vars_E N) :=
  fn_ok (A := anf_Vars_A N) (pin := [.val (.list (.int .u64))]) (rin := []) (outs := anf_Vars_o) (t := fun x => anf_Vars_T N x.1) (dok_of ⟨anf_poly_ok N, trivial⟩) mixed Tryd.func31 (by kernel_rfl) (tok_fn ⟨(tok_of rfl (by kernel_rfl) ⟨anf_Vars_l3_ok N, ⟨anf_Vars_l3b_ok N, trivial⟩⟩), lok_none (by kernel_rfl)⟩) false (fun x => by kernel_rfl)
noncomputable def bautaref34_Vars_o : FOuts (Pat.teleL [.val (.list (.int .u64))] (MPat.tele [] Unit)) := (.one false (.val (.int .u64)) [] Int (fun x y => (y, ())))
noncomputable def bautaref34_Vars_E (N : Nat) : FE := ⟨32, 0, [.val (.list (.int .u64))], [], bautaref34_Vars_o, fun x => bautaref34_Vars N x.1⟩
noncomputable def bautaref34_Vars_xk : Nat → Exit → List Nat
  | 6, .exit 0 => [3]
  | 6, .normal => [3, 4, 5]
  | _, _ => []
noncomputable def bautaref34_Vars_l3_in : SPat := ⟨[(3, .val (.int .u64)), (0, .own 0 1), (0, .val (.int .i64))], 15, [(0, ⟨27, 1, .list (.int .u64)⟩)], 1⟩
noncomputable def bautaref34_Vars_l3_out : Outs bautaref34_Vars_l3_in.X := (.one (.exit 0) ⟨[(3, .val (.int .u64))], 17, [], 0⟩ Int (fun x y => (y, ())))
noncomputable def bautaref34_Vars_l3_e (N : Nat) : TE := ⟨6, bautaref34_Vars_l3_in, bautaref34_Vars_l3_out, fun x => bautaref34_Vars_l3 N x.2.2.1 (x.1, x.2.1)⟩
noncomputable def bautaref34_Vars_A (N : Nat) : Ann := { cx := ⟨Tryd.prog, dOf [bautaref34_Make_E N], md⟩, fn := 32, inr := false, mm := 0, fuel := 0, tab := [(6, [3, 4, 5])], xk := bautaref34_Vars_xk, L := LOf [bautaref34_Vars_l3_e N] }
theorem bautaref34_Vars_l3_ok (N : Nat) : EOK (bautaref34_Vars_A N) (bautaref34_Vars_l3_e N) ((findCut 6 (Tryd.f32.body.getD .skip)).getD .skip) :=
  loop_ok (pin := bautaref34_Vars_l3_in) (outs := bautaref34_Vars_l3_out) (V := (Int × Int)) (s := fun x v => bautaref34_Vars_l3_T N x.2.2.1 v.1 v.2) (mk := fun x v => (v.1, v.2, x.2.2.1, ())) (var := fun x => (x.1, x.2.1)) N rfl rfl (fun x => rfl) (fun x v R k => by kernel_rfl)
theorem bautaref34_Vars_ok (N : Nat) : FEok Tryd.prog (bautaref34_Vars_E N) :=
  fn_ok (A := bautaref34_Vars_A N) (pin := [.val (.list (.int .u64))]) (rin := []) (outs := bautaref34_Vars_o) (t := fun x => bautaref34_Vars_T N x.1) (dok_of ⟨bautaref34_Make_ok N, trivial⟩) mixed Tryd.func32 (by kernel_rfl) (tok_fn ⟨(tok_of rfl (by kernel_rfl) ⟨bautaref34_Vars_l3_ok N, trivial⟩), lok_none (by kernel_rfl)⟩) false (fun x => by kernel_rfl)
noncomputable def bautalaw34_AnfReckons_o : FOuts (Pat.teleL [.val (.list (.int .u64)), .val (.list (.int .u64))] (MPat.tele [] Unit)) := (.one false (.val .bool) [] Bool (fun x y => (y, ())))
noncomputable def bautalaw34_AnfReckons_E (N : Nat) : FE := ⟨6, 0, [.val (.list (.int .u64)), .val (.list (.int .u64))], [], bautalaw34_AnfReckons_o, fun x => bautalaw34_AnfReckons N x.1 x.2.1⟩
noncomputable def bautalaw34_AnfReckons_A (N : Nat) : Ann := { cx := ⟨Tryd.prog, dOf [bautalaw34_short_E N, anf_Mul_E N, bautaref34_Mul_E N, anf_Add_E N, bautaref34_Add_E N, bautaref34_Same_E N, anf_Degree_E N, bautaref34_Degree_E N, anf_Vars_E N, bautaref34_Vars_E N, bautalaw34_lives_E N], md⟩, fn := 6, inr := false, mm := 0, fuel := 0, tab := [], xk := fun _ _ => [], L := LOf [] }
theorem bautalaw34_AnfReckons_ok (N : Nat) : FEok Tryd.prog (bautalaw34_AnfReckons_E N) :=
  fn_ok (A := bautalaw34_AnfReckons_A N) (pin := [.val (.list (.int .u64)), .val (.list (.int .u64))]) (rin := []) (outs := bautalaw34_AnfReckons_o) (t := fun x => bautalaw34_AnfReckons_T N x.1 x.2.1) (dok_of ⟨bautalaw34_short_ok N, ⟨anf_Mul_ok N, ⟨bautaref34_Mul_ok N, ⟨anf_Add_ok N, ⟨bautaref34_Add_ok N, ⟨bautaref34_Same_ok N, ⟨anf_Degree_ok N, ⟨bautaref34_Degree_ok N, ⟨anf_Vars_ok N, ⟨bautaref34_Vars_ok N, ⟨bautalaw34_lives_ok N, trivial⟩⟩⟩⟩⟩⟩⟩⟩⟩⟩⟩) mixed Tryd.func6 (by kernel_rfl) (tok_fn ⟨(tok_of rfl (by kernel_rfl) trivial), lok_none (by kernel_rfl)⟩) false (fun x => by kernel_rfl)
end Go.Proofs.YtkcimijkcmoonaaDoorV
