/- Anf: what the functions come to (printed by wip/ext.py). -/
import Derived.Test.YtkcimijkcmoonaaDoorVL
namespace Go.Proofs.YtkcimijkcmoonaaDoorV
open Go.RowKit
set_option linter.unusedVariables false
set_option maxRecDepth 100000
/-! ### bauta/bautalaw34.short -/
noncomputable def bautalaw34_short_T (N : Nat) (t0 : (List Int)) : Tree (List Int) :=
  let v1 : Int := (t0.length : Int)
  let v2 : Bool := (ltI 120 v1)
  .br v2 (
    .br (leI 0 120 && leI 120 (t0.length : Int)) (
    let v3 : (List Int) := (t0.take 120)
    .br (ltI ((0 + (v3.length : Int)) * 8) 140737488355328) (
    .ret v3) .fail) .fail) (
    .br (ltI ((0 + (t0.length : Int)) * 8) 140737488355328) (
    .ret t0) .fail)
noncomputable def bautalaw34_short (N : Nat) (t0 : (List Int)) : Option (List Int) := (bautalaw34_short_T N t0).run some
/-! ### slices.Clone[[]uint64,uint64] -/
noncomputable def slices_Clone_T (N : Nat) (t0 : (List Int)) : Tree (List Int) :=
  .br t0.isEmpty (
    .any (
      .ret []) (
      .br (ltI ((0 + (t0.length : Int)) * 8) 140737488355328) (
      .ret t0) .fail)) (
    .br (ltI ((0 + (t0.length : Int)) * 8) 140737488355328) (
    .ret t0) .fail)
noncomputable def slices_Clone (N : Nat) (t0 : (List Int)) : Option (List Int) := (slices_Clone_T N t0).run some
/-! ### math/bits.Len64 -/
noncomputable def bits_Len64_j7_T (N : Nat) (t0 : Int) (t2 : Int) : Tree Int :=
  let v1 : Bool := (leI 256 t0)
  .br v1 (
    let v2 : Int := (t0.fdiv (2 ^ 8))
    let v3 : Int := (IntKind.i64.wrap (t2 + 8))
    let v4 : Int := (IntKind.u8.wrap v2)
    .br (inRange v4 256) (
    let v5 : Int := (bAt (⟨#[0, 1, 2, 2, 3, 3, 3, 3, 4, 4, 4, 4, 4, 4, 4, 4, 5, 5, 5, 5, 5, 5, 5, 5, 5, 5, 5, 5, 5, 5, 5, 5, 6, 6, 6, 6, 6, 6, 6, 6, 6, 6, 6, 6, 6, 6, 6, 6, 6, 6, 6, 6, 6, 6, 6, 6, 6, 6, 6, 6, 6, 6, 6, 6, 7, 7, 7, 7, 7, 7, 7, 7, 7, 7, 7, 7, 7, 7, 7, 7, 7, 7, 7, 7, 7, 7, 7, 7, 7, 7, 7, 7, 7, 7, 7, 7, 7, 7, 7, 7, 7, 7, 7, 7, 7, 7, 7, 7, 7, 7, 7, 7, 7, 7, 7, 7, 7, 7, 7, 7, 7, 7, 7, 7, 7, 7, 7, 7, 8, 8, 8, 8, 8, 8, 8, 8, 8, 8, 8, 8, 8, 8, 8, 8, 8, 8, 8, 8, 8, 8, 8, 8, 8, 8, 8, 8, 8, 8, 8, 8, 8, 8, 8, 8, 8, 8, 8, 8, 8, 8, 8, 8, 8, 8, 8, 8, 8, 8, 8, 8, 8, 8, 8, 8, 8, 8, 8, 8, 8, 8, 8, 8, 8, 8, 8, 8, 8, 8, 8, 8, 8, 8, 8, 8, 8, 8, 8, 8, 8, 8, 8, 8, 8, 8, 8, 8, 8, 8, 8, 8, 8, 8, 8, 8, 8, 8, 8, 8, 8, 8, 8, 8, 8, 8, 8, 8, 8, 8, 8, 8, 8, 8, 8, 8, 8, 8, 8, 8, 8, 8, 8, 8, 8, 8, 8, 8]⟩ : ByteArray) v4.toNat)
    let v6 : Int := (IntKind.i64.wrap v5)
    let v7 : Int := (IntKind.i64.wrap (v3 + v6))
    .ret v7) .fail) (
    let v8 : Int := (IntKind.u8.wrap t0)
    .br (inRange v8 256) (
    let v9 : Int := (bAt (⟨#[0, 1, 2, 2, 3, 3, 3, 3, 4, 4, 4, 4, 4, 4, 4, 4, 5, 5, 5, 5, 5, 5, 5, 5, 5, 5, 5, 5, 5, 5, 5, 5, 6, 6, 6, 6, 6, 6, 6, 6, 6, 6, 6, 6, 6, 6, 6, 6, 6, 6, 6, 6, 6, 6, 6, 6, 6, 6, 6, 6, 6, 6, 6, 6, 7, 7, 7, 7, 7, 7, 7, 7, 7, 7, 7, 7, 7, 7, 7, 7, 7, 7, 7, 7, 7, 7, 7, 7, 7, 7, 7, 7, 7, 7, 7, 7, 7, 7, 7, 7, 7, 7, 7, 7, 7, 7, 7, 7, 7, 7, 7, 7, 7, 7, 7, 7, 7, 7, 7, 7, 7, 7, 7, 7, 7, 7, 7, 7, 8, 8, 8, 8, 8, 8, 8, 8, 8, 8, 8, 8, 8, 8, 8, 8, 8, 8, 8, 8, 8, 8, 8, 8, 8, 8, 8, 8, 8, 8, 8, 8, 8, 8, 8, 8, 8, 8, 8, 8, 8, 8, 8, 8, 8, 8, 8, 8, 8, 8, 8, 8, 8, 8, 8, 8, 8, 8, 8, 8, 8, 8, 8, 8, 8, 8, 8, 8, 8, 8, 8, 8, 8, 8, 8, 8, 8, 8, 8, 8, 8, 8, 8, 8, 8, 8, 8, 8, 8, 8, 8, 8, 8, 8, 8, 8, 8, 8, 8, 8, 8, 8, 8, 8, 8, 8, 8, 8, 8, 8, 8, 8, 8, 8, 8, 8, 8, 8, 8, 8, 8, 8, 8, 8, 8, 8, 8, 8]⟩ : ByteArray) v8.toNat)
    let v10 : Int := (IntKind.i64.wrap v9)
    let v11 : Int := (IntKind.i64.wrap (t2 + v10))
    .ret v11) .fail)
noncomputable def bits_Len64_j7 (N : Nat) (t0 : Int) (t2 : Int) : Option Int := (bits_Len64_j7_T N t0 t2).run some
noncomputable def bits_Len64_j4_T (N : Nat) (t0 : Int) (t2 : Int) : Tree Int :=
  let v1 : Bool := (leI 65536 t0)
  .br v1 (
    let v2 : Int := (t0.fdiv (2 ^ 16))
    let v3 : Int := (IntKind.i64.wrap (t2 + 16))
    .call (bits_Len64_j7 N v2 v3) fun y4 => (
    .ret y4)) (
    .call (bits_Len64_j7 N t0 t2) fun y5 => (
    .ret y5))
noncomputable def bits_Len64_j4 (N : Nat) (t0 : Int) (t2 : Int) : Option Int := (bits_Len64_j4_T N t0 t2).run some
noncomputable def bits_Len64_T (N : Nat) (t0 : Int) : Tree Int :=
  let v1 : Bool := (leI 4294967296 t0)
  .br v1 (
    let v2 : Int := (t0.fdiv (2 ^ 32))
    .call (bits_Len64_j4 N v2 32) fun y3 => (
    .ret y3)) (
    .call (bits_Len64_j4 N t0 0) fun y4 => (
    .ret y4))
noncomputable def bits_Len64 (N : Nat) (t0 : Int) : Option Int := (bits_Len64_T N t0).run some
/-! ### math/bits.Len -/
noncomputable def bits_Len_T (N : Nat) (t0 : Int) : Tree Int :=
  .call (bits_Len64 N t0) fun y1 => (
  .ret y1)
noncomputable def bits_Len (N : Nat) (t0 : Int) : Option Int := (bits_Len_T N t0).run some
/-! ### cmp.isNaN[uint64] -/
noncomputable def cmp_isNaN_T (N : Nat) (t0 : Int) : Tree Bool :=
  let v1 : Bool := (t0 != t0)
  .ret v1
noncomputable def cmp_isNaN (N : Nat) (t0 : Int) : Option Bool := (cmp_isNaN_T N t0).run some
/-! ### cmp.Less[uint64] -/
noncomputable def cmp_Less_T (N : Nat) (t0 : Int) (t1 : Int) : Tree Bool :=
  .call (cmp_isNaN N t0) fun y1 => (
  .br y1 (
    .call (cmp_isNaN N t1) fun y2 => (
    let v3 : Bool := (!y2)
    .br v3 (
      .ret true) (
      let v4 : Bool := (ltI t0 t1)
      .ret v4))) (
    let v5 : Bool := (ltI t0 t1)
    .ret v5))
noncomputable def cmp_Less (N : Nat) (t0 : Int) (t1 : Int) : Option Bool := (cmp_Less_T N t0 t1).run some
/-! ### slices.insertionSortOrdered[uint64] -/
noncomputable def slices_insertionSortOrdered_j6_T (N : Nat) (t7 : Int) (r0 : (List Int)) : Tree (Int × (List Int)) :=
  let v1 : Int := (IntKind.i64.wrap (t7 - 1))
  let v2 : Int := (IntKind.i64.wrap (t7 - 1))
  .br (inRange v2 r0.length) (
  let v3 : Int := (r0.getD v2.toNat 0)
  .br (inRange t7 r0.length) (
  let v4 : Int := (r0.getD t7.toNat 0)
  .br (inRange t7 r0.length) (
  let v5 : (List Int) := (r0.set t7.toNat v3)
  .br (inRange v1 v5.length) (
  let v6 : (List Int) := (v5.set v1.toNat v4)
  let v7 : Int := (IntKind.i64.wrap (t7 - 1))
  .ret (v7, v6)) .fail) .fail) .fail) .fail
noncomputable def slices_insertionSortOrdered_j6 (N : Nat) (t7 : Int) (r0 : (List Int)) : Option (Int × (List Int)) := (slices_insertionSortOrdered_j6_T N t7 r0).run some
noncomputable def slices_insertionSortOrdered_l4_T (N : Nat) (t1 : Int) (t7 : Int) (r0 : (List Int)) : Tree ((Int × (List Int)) ⊕ (List Int)) :=
  let v1 : Bool := (ltI t1 t7)
  .br v1 (
    .br (inRange t7 r0.length) (
    let v2 : Int := (r0.getD t7.toNat 0)
    let v3 : Int := (IntKind.i64.wrap (t7 - 1))
    .br (inRange v3 r0.length) (
    let v4 : Int := (r0.getD v3.toNat 0)
    .call (cmp_Less N v2 v4) fun y5 => (
    .br y5 (
      .call (slices_insertionSortOrdered_j6 N t7 r0) fun y6 => (
      .ret (.inl (y6.1, y6.2)))) (
      .ret (.inr r0)))) .fail) .fail) (
    .ret (.inr r0))
noncomputable def slices_insertionSortOrdered_l4 (N : Nat) (t1 : Int) (v : (Int × (List Int))) : Option (List Int) := loopN (fun v => slices_insertionSortOrdered_l4_T N t1 v.1 v.2) N v
noncomputable def slices_insertionSortOrdered_l1_T (N : Nat) (t1 : Int) (t2 : Int) (t6 : Int) (r0 : (List Int)) : Tree ((Int × (List Int)) ⊕ (List Int)) :=
  let v1 : Bool := (ltI t6 t2)
  .br v1 (
    .call (slices_insertionSortOrdered_l4 N t1 (t6, r0)) fun y2 => (
    let v3 : Int := (IntKind.i64.wrap (t6 + 1))
    .ret (.inl (v3, y2)))) (
    .ret (.inr r0))
noncomputable def slices_insertionSortOrdered_l1 (N : Nat) (t1 : Int) (t2 : Int) (v : (Int × (List Int))) : Option (List Int) := loopN (fun v => slices_insertionSortOrdered_l1_T N t1 t2 v.1 v.2) N v
noncomputable def slices_insertionSortOrdered_T (N : Nat) (t1 : Int) (t2 : Int) (r0 : (List Int)) : Tree (List Int) :=
  let v1 : Int := (IntKind.i64.wrap (t1 + 1))
  .call (slices_insertionSortOrdered_l1 N t1 t2 (v1, r0)) fun y2 => (
  .ret y2)
noncomputable def slices_insertionSortOrdered (N : Nat) (t1 : Int) (t2 : Int) (r0 : (List Int)) : Option (List Int) := (slices_insertionSortOrdered_T N t1 t2 r0).run some
/-! ### slices.siftDownOrdered[uint64] -/
noncomputable def slices_siftDownOrdered_j5_T (N : Nat) (t3 : Int) (t8 : Int) (t9 : Int) (r0 : (List Int)) : Tree (Unit ⊕ (List Int)) :=
  let v1 : Int := (IntKind.i64.wrap (t3 + t8))
  .br (inRange v1 r0.length) (
  let v2 : Int := (r0.getD v1.toNat 0)
  let v3 : Int := (IntKind.i64.wrap (t3 + t9))
  .br (inRange v3 r0.length) (
  let v4 : Int := (r0.getD v3.toNat 0)
  .call (cmp_Less N v2 v4) fun y5 => (
  let v6 : Bool := (!y5)
  .br v6 (
    .ret (.inl ())) (
    let v7 : Int := (IntKind.i64.wrap (t3 + t8))
    let v8 : Int := (IntKind.i64.wrap (t3 + t9))
    let v9 : Int := (IntKind.i64.wrap (t3 + t9))
    .br (inRange v9 r0.length) (
    let v10 : Int := (r0.getD v9.toNat 0)
    let v11 : Int := (IntKind.i64.wrap (t3 + t8))
    .br (inRange v11 r0.length) (
    let v12 : Int := (r0.getD v11.toNat 0)
    .br (inRange v7 r0.length) (
    let v13 : (List Int) := (r0.set v7.toNat v10)
    .br (inRange v8 v13.length) (
    let v14 : (List Int) := (v13.set v8.toNat v12)
    .ret (.inr v14)) .fail) .fail) .fail) .fail))) .fail) .fail
noncomputable def slices_siftDownOrdered_j5 (N : Nat) (t3 : Int) (t8 : Int) (t9 : Int) (r0 : (List Int)) : Option (Unit ⊕ (List Int)) := (slices_siftDownOrdered_j5_T N t3 t8 t9 r0).run some
noncomputable def slices_siftDownOrdered_l1_T (N : Nat) (t2 : Int) (t3 : Int) (t8 : Int) (r0 : (List Int)) : Tree ((Int × (List Int)) ⊕ ((List Int) ⊕ (List Int))) :=
  let v1 : Int := (IntKind.i64.wrap (2 * t8))
  let v2 : Int := (IntKind.i64.wrap (v1 + 1))
  let v3 : Bool := (leI t2 v2)
  .br v3 (
    .ret (.inr (.inl r0))) (
    let v4 : Int := (IntKind.i64.wrap (v2 + 1))
    let v5 : Bool := (ltI v4 t2)
    .br v5 (
      let v6 : Int := (IntKind.i64.wrap (t3 + v2))
      .br (inRange v6 r0.length) (
      let v7 : Int := (r0.getD v6.toNat 0)
      let v8 : Int := (IntKind.i64.wrap (t3 + v2))
      let v9 : Int := (IntKind.i64.wrap (v8 + 1))
      .br (inRange v9 r0.length) (
      let v10 : Int := (r0.getD v9.toNat 0)
      .call (cmp_Less N v7 v10) fun y11 => (
      .br y11 (
        let v12 : Int := (IntKind.i64.wrap (v2 + 1))
        .call (slices_siftDownOrdered_j5 N t3 t8 v12 r0) fun y13 => (
        .alt y13 (fun y14 => (
          .ret (.inr (.inr r0)))) (fun y15 => (
          .ret (.inl (v12, y15)))))) (
        .call (slices_siftDownOrdered_j5 N t3 t8 v2 r0) fun y16 => (
        .alt y16 (fun y17 => (
          .ret (.inr (.inr r0)))) (fun y18 => (
          .ret (.inl (v2, y18)))))))) .fail) .fail) (
      .call (slices_siftDownOrdered_j5 N t3 t8 v2 r0) fun y19 => (
      .alt y19 (fun y20 => (
        .ret (.inr (.inr r0)))) (fun y21 => (
        .ret (.inl (v2, y21)))))))
noncomputable def slices_siftDownOrdered_l1 (N : Nat) (t2 : Int) (t3 : Int) (v : (Int × (List Int))) : Option ((List Int) ⊕ (List Int)) := loopN (fun v => slices_siftDownOrdered_l1_T N t2 t3 v.1 v.2) N v
noncomputable def slices_siftDownOrdered_T (N : Nat) (t1 : Int) (t2 : Int) (t3 : Int) (r0 : (List Int)) : Tree (List Int) :=
  .call (slices_siftDownOrdered_l1 N t2 t3 (t1, r0)) fun y1 => (
  .alt y1 (fun y2 => (
    .ret y2)) (fun y3 => (
    .ret y3)))
noncomputable def slices_siftDownOrdered (N : Nat) (t1 : Int) (t2 : Int) (t3 : Int) (r0 : (List Int)) : Option (List Int) := (slices_siftDownOrdered_T N t1 t2 t3 r0).run some
/-! ### slices.heapSortOrdered[uint64] -/
noncomputable def slices_heapSortOrdered_l4_T (N : Nat) (t6 : Int) (t8 : Int) (t9 : Int) (r0 : (List Int)) : Tree ((Int × (List Int)) ⊕ (List Int)) :=
  let v1 : Bool := (leI 0 t9)
  .br v1 (
    .call (slices_siftDownOrdered N t9 t8 t6 r0) fun y2 => (
    let v3 : Int := (IntKind.i64.wrap (t9 - 1))
    .ret (.inl (v3, y2)))) (
    .ret (.inr r0))
noncomputable def slices_heapSortOrdered_l4 (N : Nat) (t6 : Int) (t8 : Int) (v : (Int × (List Int))) : Option (List Int) := loopN (fun v => slices_heapSortOrdered_l4_T N t6 t8 v.1 v.2) N v
noncomputable def slices_heapSortOrdered_l8_T (N : Nat) (t6 : Int) (t7 : Int) (t10 : Int) (r0 : (List Int)) : Tree ((Int × (List Int)) ⊕ (List Int)) :=
  let v1 : Bool := (leI 0 t10)
  .br v1 (
    let v2 : Int := (IntKind.i64.wrap (t6 + t10))
    let v3 : Int := (IntKind.i64.wrap (t6 + t10))
    .br (inRange v3 r0.length) (
    let v4 : Int := (r0.getD v3.toNat 0)
    .br (inRange t6 r0.length) (
    let v5 : Int := (r0.getD t6.toNat 0)
    .br (inRange t6 r0.length) (
    let v6 : (List Int) := (r0.set t6.toNat v4)
    .br (inRange v2 v6.length) (
    let v7 : (List Int) := (v6.set v2.toNat v5)
    .call (slices_siftDownOrdered N t7 t10 t6 v7) fun y8 => (
    let v9 : Int := (IntKind.i64.wrap (t10 - 1))
    .ret (.inl (v9, y8)))) .fail) .fail) .fail) .fail) (
    .ret (.inr r0))
noncomputable def slices_heapSortOrdered_l8 (N : Nat) (t6 : Int) (t7 : Int) (v : (Int × (List Int))) : Option (List Int) := loopN (fun v => slices_heapSortOrdered_l8_T N t6 t7 v.1 v.2) N v
noncomputable def slices_heapSortOrdered_T (N : Nat) (t1 : Int) (t2 : Int) (r0 : (List Int)) : Tree (List Int) :=
  let v1 : Int := (IntKind.i64.wrap (t2 - t1))
  let v2 : Int := (IntKind.i64.wrap (v1 - 1))
  let v3 : Int := (IntKind.i64.wrap (v2.tdiv 2))
  .call (slices_heapSortOrdered_l4 N t1 v1 (v3, r0)) fun y4 => (
  let v5 : Int := (IntKind.i64.wrap (v1 - 1))
  .call (slices_heapSortOrdered_l8 N t1 0 (v5, y4)) fun y6 => (
  .ret y6))
noncomputable def slices_heapSortOrdered (N : Nat) (t1 : Int) (t2 : Int) (r0 : (List Int)) : Option (List Int) := (slices_heapSortOrdered_T N t1 t2 r0).run some
/-! ### slices.nextPowerOfTwo -/
noncomputable def slices_nextPowerOfTwo_T (N : Nat) (t0 : Int) : Tree Int :=
  let v1 : Int := (IntKind.u64.wrap t0)
  .call (bits_Len N v1) fun y2 => (
  .br (!ltI y2 0) (
  let v3 : Int := (IntKind.u64.wrap (1 * 2 ^ (min y2.toNat 64)))
  .ret v3) .fail)
noncomputable def slices_nextPowerOfTwo (N : Nat) (t0 : Int) : Option Int := (slices_nextPowerOfTwo_T N t0).run some
/-! ### (*slices.xorshift).Next -/
noncomputable def slices_xorshift_Next_T (N : Nat) (r0 : Int) : Tree (Int × Int) :=
  let v1 : Int := (IntKind.u64.wrap (r0 * 2 ^ 13))
  let v2 : Int := (IntKind.u64.wrap (((BitVec.ofInt 64 r0) ^^^ (BitVec.ofInt 64 v1)).toNat : Int))
  let v3 : Int := (v2.fdiv (2 ^ 7))
  let v4 : Int := (IntKind.u64.wrap (((BitVec.ofInt 64 v2) ^^^ (BitVec.ofInt 64 v3)).toNat : Int))
  let v5 : Int := (IntKind.u64.wrap (v4 * 2 ^ 17))
  let v6 : Int := (IntKind.u64.wrap (((BitVec.ofInt 64 v4) ^^^ (BitVec.ofInt 64 v5)).toNat : Int))
  .ret (v6, v6)
noncomputable def slices_xorshift_Next (N : Nat) (r0 : Int) : Option (Int × Int) := (slices_xorshift_Next_T N r0).run some
/-! ### slices.breakPatternsOrdered[uint64] -/
noncomputable def slices_breakPatternsOrdered_j10_T (N : Nat) (t1 : Int) (t9 : Int) (t10 : Int) (r0 : (List Int)) : Tree (List Int) :=
  let v1 : Int := (IntKind.i64.wrap (t1 + t10))
  let v2 : Int := (IntKind.i64.wrap (t1 + t10))
  .br (inRange v2 r0.length) (
  let v3 : Int := (r0.getD v2.toNat 0)
  .br (inRange t9 r0.length) (
  let v4 : Int := (r0.getD t9.toNat 0)
  .br (inRange t9 r0.length) (
  let v5 : (List Int) := (r0.set t9.toNat v3)
  .br (inRange v1 v5.length) (
  let v6 : (List Int) := (v5.set v1.toNat v4)
  .ret v6) .fail) .fail) .fail) .fail
noncomputable def slices_breakPatternsOrdered_j10 (N : Nat) (t1 : Int) (t9 : Int) (t10 : Int) (r0 : (List Int)) : Option (List Int) := (slices_breakPatternsOrdered_j10_T N t1 t9 t10 r0).run some
noncomputable def slices_breakPatternsOrdered_l5_T (N : Nat) (t1 : Int) (t6 : Int) (t8 : Int) (t9 : Int) (r0 : (List Int)) (r1 : Int) : Tree ((Int × (List Int) × Int) ⊕ (List Int)) :=
  let v1 : Int := (IntKind.i64.wrap (t6.tdiv 4))
  let v2 : Int := (IntKind.i64.wrap (v1 * 2))
  let v3 : Int := (IntKind.i64.wrap (t1 + v2))
  let v4 : Int := (IntKind.i64.wrap (v3 + 1))
  let v5 : Bool := (leI t9 v4)
  .br v5 (
    .call (slices_xorshift_Next N r1) fun y6 => (
    let v7 : Int := (IntKind.u64.wrap (t8 - 1))
    let v8 : Int := (IntKind.u64.wrap (((BitVec.ofInt 64 y6.1) &&& (BitVec.ofInt 64 v7)).toNat : Int))
    let v9 : Int := (IntKind.i64.wrap v8)
    let v10 : Bool := (leI t6 v9)
    .br v10 (
      let v11 : Int := (IntKind.i64.wrap (v9 - t6))
      .call (slices_breakPatternsOrdered_j10 N t1 t9 v11 r0) fun y12 => (
      let v13 : Int := (IntKind.i64.wrap (t9 + 1))
      .ret (.inl (v13, y12, y6.2)))) (
      .call (slices_breakPatternsOrdered_j10 N t1 t9 v9 r0) fun y14 => (
      let v15 : Int := (IntKind.i64.wrap (t9 + 1))
      .ret (.inl (v15, y14, y6.2)))))) (
    .ret (.inr r0))
noncomputable def slices_breakPatternsOrdered_l5 (N : Nat) (t1 : Int) (t6 : Int) (t8 : Int) (v : (Int × (List Int) × Int)) : Option (List Int) := loopN (fun v => slices_breakPatternsOrdered_l5_T N t1 t6 t8 v.1 v.2.1 v.2.2) N v
noncomputable def slices_breakPatternsOrdered_T (N : Nat) (t1 : Int) (t2 : Int) (r0 : (List Int)) : Tree (List Int) :=
  let v1 : Int := (IntKind.i64.wrap (t2 - t1))
  let v2 : Bool := (leI 8 v1)
  .br v2 (
    let v3 : Int := (IntKind.u64.wrap v1)
    .call (slices_nextPowerOfTwo N v1) fun y4 => (
    let v5 : Int := (IntKind.i64.wrap (v1.tdiv 4))
    let v6 : Int := (IntKind.i64.wrap (v5 * 2))
    let v7 : Int := (IntKind.i64.wrap (t1 + v6))
    let v8 : Int := (IntKind.i64.wrap (v7 - 1))
    .call (slices_breakPatternsOrdered_l5 N t1 v1 y4 (v8, r0, v3)) fun y9 => (
    .ret y9))) (
    .ret r0)
noncomputable def slices_breakPatternsOrdered (N : Nat) (t1 : Int) (t2 : Int) (r0 : (List Int)) : Option (List Int) := (slices_breakPatternsOrdered_T N t1 t2 r0).run some
/-! ### slices.order2Ordered[uint64] -/
noncomputable def slices_order2Ordered_T (N : Nat) (t0 : (List Int)) (t1 : Int) (t2 : Int) (r0 : Int) : Tree (Int × Int × Int) :=
  .br (inRange t2 t0.length) (
  let v1 : Int := (t0.getD t2.toNat 0)
  .br (inRange t1 t0.length) (
  let v2 : Int := (t0.getD t1.toNat 0)
  .call (cmp_Less N v1 v2) fun y3 => (
  .br y3 (
    let v4 : Int := (IntKind.i64.wrap (r0 + 1))
    .ret (t2, t1, v4)) (
    .ret (t1, t2, r0)))) .fail) .fail
noncomputable def slices_order2Ordered (N : Nat) (t0 : (List Int)) (t1 : Int) (t2 : Int) (r0 : Int) : Option (Int × Int × Int) := (slices_order2Ordered_T N t0 t1 t2 r0).run some
/-! ### slices.medianOrdered[uint64] -/
noncomputable def slices_medianOrdered_T (N : Nat) (t0 : (List Int)) (t1 : Int) (t2 : Int) (t3 : Int) (r0 : Int) : Tree (Int × Int) :=
  .call (slices_order2Ordered N t0 t1 t2 r0) fun y1 => (
  .call (slices_order2Ordered N t0 y1.2.1 t3 y1.2.2) fun y2 => (
  .call (slices_order2Ordered N t0 y1.1 y2.1 y2.2.2) fun y3 => (
  .ret (y3.2.1, y3.2.2))))
noncomputable def slices_medianOrdered (N : Nat) (t0 : (List Int)) (t1 : Int) (t2 : Int) (t3 : Int) (r0 : Int) : Option (Int × Int) := (slices_medianOrdered_T N t0 t1 t2 t3 r0).run some
/-! ### slices.medianAdjacentOrdered[uint64] -/
noncomputable def slices_medianAdjacentOrdered_T (N : Nat) (t0 : (List Int)) (t1 : Int) (r0 : Int) : Tree (Int × Int) :=
  let v1 : Int := (IntKind.i64.wrap (t1 - 1))
  let v2 : Int := (IntKind.i64.wrap (t1 + 1))
  .call (slices_medianOrdered N t0 v1 t1 v2 r0) fun y3 => (
  .ret (y3.1, y3.2))
noncomputable def slices_medianAdjacentOrdered (N : Nat) (t0 : (List Int)) (t1 : Int) (r0 : Int) : Option (Int × Int) := (slices_medianAdjacentOrdered_T N t0 t1 r0).run some
/-! ### slices.choosePivotOrdered[uint64] -/
noncomputable def slices_choosePivotOrdered_j12_T (N : Nat) (r0 : Int) : Tree Int :=
  let v1 : Bool := (r0 == 0)
  .br v1 (
    .ret 1) (
    let v2 : Bool := (r0 == 12)
    .br v2 (
      .ret 2) (
      .ret 0))
noncomputable def slices_choosePivotOrdered_j12 (N : Nat) (r0 : Int) : Option Int := (slices_choosePivotOrdered_j12_T N r0).run some
noncomputable def slices_choosePivotOrdered_T (N : Nat) (t0 : (List Int)) (t1 : Int) (t2 : Int) : Tree (Int × Int) :=
  let v1 : Int := (IntKind.i64.wrap (t2 - t1))
  let v2 : Int := (IntKind.i64.wrap (v1.tdiv 4))
  let v3 : Int := (IntKind.i64.wrap (v2 * 1))
  let v4 : Int := (IntKind.i64.wrap (t1 + v3))
  let v5 : Int := (IntKind.i64.wrap (v1.tdiv 4))
  let v6 : Int := (IntKind.i64.wrap (v5 * 2))
  let v7 : Int := (IntKind.i64.wrap (t1 + v6))
  let v8 : Int := (IntKind.i64.wrap (v1.tdiv 4))
  let v9 : Int := (IntKind.i64.wrap (v8 * 3))
  let v10 : Int := (IntKind.i64.wrap (t1 + v9))
  let v11 : Bool := (leI 8 v1)
  .br v11 (
    let v12 : Bool := (leI 50 v1)
    .br v12 (
      .call (slices_medianAdjacentOrdered N t0 v4 0) fun y13 => (
      .call (slices_medianAdjacentOrdered N t0 v7 y13.2) fun y14 => (
      .call (slices_medianAdjacentOrdered N t0 v10 y14.2) fun y15 => (
      .call (slices_medianOrdered N t0 y13.1 y14.1 y15.1 y15.2) fun y16 => (
      .call (slices_choosePivotOrdered_j12 N y16.2) fun y17 => (
      .ret (y16.1, y17))))))) (
      .call (slices_medianOrdered N t0 v4 v7 v10 0) fun y18 => (
      .call (slices_choosePivotOrdered_j12 N y18.2) fun y19 => (
      .ret (y18.1, y19))))) (
    .call (slices_choosePivotOrdered_j12 N 0) fun y20 => (
    .ret (v7, y20)))
noncomputable def slices_choosePivotOrdered (N : Nat) (t0 : (List Int)) (t1 : Int) (t2 : Int) : Option (Int × Int) := (slices_choosePivotOrdered_T N t0 t1 t2).run some
/-! ### slices.reverseRangeOrdered[uint64] -/
noncomputable def slices_reverseRangeOrdered_l2_T (N : Nat) (t6 : Int) (t7 : Int) (r0 : (List Int)) : Tree ((Int × Int × (List Int)) ⊕ (List Int)) :=
  let v1 : Bool := (ltI t6 t7)
  .br v1 (
    .br (inRange t7 r0.length) (
    let v2 : Int := (r0.getD t7.toNat 0)
    .br (inRange t6 r0.length) (
    let v3 : Int := (r0.getD t6.toNat 0)
    .br (inRange t6 r0.length) (
    let v4 : (List Int) := (r0.set t6.toNat v2)
    .br (inRange t7 v4.length) (
    let v5 : (List Int) := (v4.set t7.toNat v3)
    let v6 : Int := (IntKind.i64.wrap (t6 + 1))
    let v7 : Int := (IntKind.i64.wrap (t7 - 1))
    .ret (.inl (v6, v7, v5))) .fail) .fail) .fail) .fail) (
    .ret (.inr r0))
noncomputable def slices_reverseRangeOrdered_l2 (N : Nat) (v : (Int × Int × (List Int))) : Option (List Int) := loopN (fun v => slices_reverseRangeOrdered_l2_T N v.1 v.2.1 v.2.2) N v
noncomputable def slices_reverseRangeOrdered_T (N : Nat) (t1 : Int) (t2 : Int) (r0 : (List Int)) : Tree (List Int) :=
  let v1 : Int := (IntKind.i64.wrap (t2 - 1))
  .call (slices_reverseRangeOrdered_l2 N (t1, v1, r0)) fun y2 => (
  .ret y2)
noncomputable def slices_reverseRangeOrdered (N : Nat) (t1 : Int) (t2 : Int) (r0 : (List Int)) : Option (List Int) := (slices_reverseRangeOrdered_T N t1 t2 r0).run some
/-! ### slices.partialInsertionSortOrdered[uint64] -/
noncomputable def slices_partialInsertionSortOrdered_l5_T (N : Nat) (t2 : Int) (r0 : (List Int)) (t7 : Int) : Tree (Int ⊕ Int) :=
  let v1 : Bool := (ltI t7 t2)
  .br v1 (
    .br (inRange t7 r0.length) (
    let v2 : Int := (r0.getD t7.toNat 0)
    let v3 : Int := (IntKind.i64.wrap (t7 - 1))
    .br (inRange v3 r0.length) (
    let v4 : Int := (r0.getD v3.toNat 0)
    .call (cmp_Less N v2 v4) fun y5 => (
    let v6 : Bool := (!y5)
    .br v6 (
      let v7 : Int := (IntKind.i64.wrap (t7 + 1))
      .ret (.inl v7)) (
      .ret (.inr t7)))) .fail) .fail) (
    .ret (.inr t7))
noncomputable def slices_partialInsertionSortOrdered_l5 (N : Nat) (t2 : Int) (r0 : (List Int)) (v : Int) : Option Int := loopN (fun v => slices_partialInsertionSortOrdered_l5_T N t2 r0 v) N v
noncomputable def slices_partialInsertionSortOrdered_l14_T (N : Nat) (t9 : Int) (r0 : (List Int)) : Tree ((Int × (List Int)) ⊕ (List Int)) :=
  let v1 : Bool := (leI 1 t9)
  .br v1 (
    .br (inRange t9 r0.length) (
    let v2 : Int := (r0.getD t9.toNat 0)
    let v3 : Int := (IntKind.i64.wrap (t9 - 1))
    .br (inRange v3 r0.length) (
    let v4 : Int := (r0.getD v3.toNat 0)
    .call (cmp_Less N v2 v4) fun y5 => (
    let v6 : Bool := (!y5)
    .br v6 (
      .ret (.inr r0)) (
      let v7 : Int := (IntKind.i64.wrap (t9 - 1))
      let v8 : Int := (IntKind.i64.wrap (t9 - 1))
      .br (inRange v8 r0.length) (
      let v9 : Int := (r0.getD v8.toNat 0)
      .br (inRange t9 r0.length) (
      let v10 : Int := (r0.getD t9.toNat 0)
      .br (inRange t9 r0.length) (
      let v11 : (List Int) := (r0.set t9.toNat v9)
      .br (inRange v7 v11.length) (
      let v12 : (List Int) := (v11.set v7.toNat v10)
      let v13 : Int := (IntKind.i64.wrap (t9 - 1))
      .ret (.inl (v13, v12))) .fail) .fail) .fail) .fail))) .fail) .fail) (
    .ret (.inr r0))
noncomputable def slices_partialInsertionSortOrdered_l14 (N : Nat) (v : (Int × (List Int))) : Option (List Int) := loopN (fun v => slices_partialInsertionSortOrdered_l14_T N v.1 v.2) N v
noncomputable def slices_partialInsertionSortOrdered_l20_T (N : Nat) (t2 : Int) (t10 : Int) (r0 : (List Int)) : Tree ((Int × (List Int)) ⊕ (List Int)) :=
  let v1 : Bool := (ltI t10 t2)
  .br v1 (
    .br (inRange t10 r0.length) (
    let v2 : Int := (r0.getD t10.toNat 0)
    let v3 : Int := (IntKind.i64.wrap (t10 - 1))
    .br (inRange v3 r0.length) (
    let v4 : Int := (r0.getD v3.toNat 0)
    .call (cmp_Less N v2 v4) fun y5 => (
    let v6 : Bool := (!y5)
    .br v6 (
      .ret (.inr r0)) (
      let v7 : Int := (IntKind.i64.wrap (t10 - 1))
      let v8 : Int := (IntKind.i64.wrap (t10 - 1))
      .br (inRange v8 r0.length) (
      let v9 : Int := (r0.getD v8.toNat 0)
      .br (inRange t10 r0.length) (
      let v10 : Int := (r0.getD t10.toNat 0)
      .br (inRange t10 r0.length) (
      let v11 : (List Int) := (r0.set t10.toNat v9)
      .br (inRange v7 v11.length) (
      let v12 : (List Int) := (v11.set v7.toNat v10)
      let v13 : Int := (IntKind.i64.wrap (t10 + 1))
      .ret (.inl (v13, v12))) .fail) .fail) .fail) .fail))) .fail) .fail) (
    .ret (.inr r0))
noncomputable def slices_partialInsertionSortOrdered_l20 (N : Nat) (t2 : Int) (v : (Int × (List Int))) : Option (List Int) := loopN (fun v => slices_partialInsertionSortOrdered_l20_T N t2 v.1 v.2) N v
noncomputable def slices_partialInsertionSortOrdered_j18_T (N : Nat) (t2 : Int) (t7 : Int) (r0 : (List Int)) : Tree (List Int) :=
  let v1 : Int := (IntKind.i64.wrap (t2 - t7))
  let v2 : Bool := (leI 2 v1)
  .br v2 (
    let v3 : Int := (IntKind.i64.wrap (t7 + 1))
    .call (slices_partialInsertionSortOrdered_l20 N t2 (v3, r0)) fun y4 => (
    .ret y4)) (
    .ret r0)
noncomputable def slices_partialInsertionSortOrdered_j18 (N : Nat) (t2 : Int) (t7 : Int) (r0 : (List Int)) : Option (List Int) := (slices_partialInsertionSortOrdered_j18_T N t2 t7 r0).run some
noncomputable def slices_partialInsertionSortOrdered_l3_T (N : Nat) (t1 : Int) (t2 : Int) (t7 : Int) (t8 : Int) (r0 : (List Int)) : Tree ((Int × Int × (List Int)) ⊕ ((Bool × (List Int)) ⊕ (List Int))) :=
  let v1 : Bool := (ltI t8 5)
  .br v1 (
    .call (slices_partialInsertionSortOrdered_l5 N t2 r0 t7) fun y2 => (
    let v3 : Bool := (y2 == t2)
    .br v3 (
      .ret (.inr (.inl (true, r0)))) (
      let v4 : Int := (IntKind.i64.wrap (t2 - t1))
      let v5 : Bool := (ltI v4 50)
      .br v5 (
        .ret (.inr (.inl (false, r0)))) (
        let v6 : Int := (IntKind.i64.wrap (y2 - 1))
        let v7 : Int := (IntKind.i64.wrap (y2 - 1))
        .br (inRange v7 r0.length) (
        let v8 : Int := (r0.getD v7.toNat 0)
        .br (inRange y2 r0.length) (
        let v9 : Int := (r0.getD y2.toNat 0)
        .br (inRange y2 r0.length) (
        let v10 : (List Int) := (r0.set y2.toNat v8)
        .br (inRange v6 v10.length) (
        let v11 : (List Int) := (v10.set v6.toNat v9)
        let v12 : Int := (IntKind.i64.wrap (y2 - t1))
        let v13 : Bool := (leI 2 v12)
        .br v13 (
          let v14 : Int := (IntKind.i64.wrap (y2 - 1))
          .call (slices_partialInsertionSortOrdered_l14 N (v14, v11)) fun y15 => (
          .call (slices_partialInsertionSortOrdered_j18 N t2 y2 y15) fun y16 => (
          let v17 : Int := (IntKind.i64.wrap (t8 + 1))
          .ret (.inl (y2, v17, y16))))) (
          .call (slices_partialInsertionSortOrdered_j18 N t2 y2 v11) fun y18 => (
          let v19 : Int := (IntKind.i64.wrap (t8 + 1))
          .ret (.inl (y2, v19, y18))))) .fail) .fail) .fail) .fail)))) (
    .ret (.inr (.inr r0)))
noncomputable def slices_partialInsertionSortOrdered_l3 (N : Nat) (t1 : Int) (t2 : Int) (v : (Int × Int × (List Int))) : Option ((Bool × (List Int)) ⊕ (List Int)) := loopN (fun v => slices_partialInsertionSortOrdered_l3_T N t1 t2 v.1 v.2.1 v.2.2) N v
noncomputable def slices_partialInsertionSortOrdered_T (N : Nat) (t1 : Int) (t2 : Int) (r0 : (List Int)) : Tree (Bool × (List Int)) :=
  let v1 : Int := (IntKind.i64.wrap (t1 + 1))
  .call (slices_partialInsertionSortOrdered_l3 N t1 t2 (v1, 0, r0)) fun y2 => (
  .alt y2 (fun y3 => (
    .ret (y3.1, y3.2))) (fun y4 => (
    .ret (false, y4))))
noncomputable def slices_partialInsertionSortOrdered (N : Nat) (t1 : Int) (t2 : Int) (r0 : (List Int)) : Option (Bool × (List Int)) := (slices_partialInsertionSortOrdered_T N t1 t2 r0).run some
/-! ### slices.partitionEqualOrdered[uint64] -/
noncomputable def slices_partitionEqualOrdered_l3_T (N : Nat) (t1 : Int) (t10 : Int) (r0 : (List Int)) (t9 : Int) : Tree (Int ⊕ Int) :=
  let v1 : Bool := (leI t9 t10)
  .br v1 (
    .br (inRange t1 r0.length) (
    let v2 : Int := (r0.getD t1.toNat 0)
    .br (inRange t9 r0.length) (
    let v3 : Int := (r0.getD t9.toNat 0)
    .call (cmp_Less N v2 v3) fun y4 => (
    let v5 : Bool := (!y4)
    .br v5 (
      let v6 : Int := (IntKind.i64.wrap (t9 + 1))
      .ret (.inl v6)) (
      .ret (.inr t9)))) .fail) .fail) (
    .ret (.inr t9))
noncomputable def slices_partitionEqualOrdered_l3 (N : Nat) (t1 : Int) (t10 : Int) (r0 : (List Int)) (v : Int) : Option Int := loopN (fun v => slices_partitionEqualOrdered_l3_T N t1 t10 r0 v) N v
noncomputable def slices_partitionEqualOrdered_l5_T (N : Nat) (t1 : Int) (t9 : Int) (r0 : (List Int)) (t10 : Int) : Tree (Int ⊕ Int) :=
  let v1 : Bool := (leI t9 t10)
  .br v1 (
    .br (inRange t1 r0.length) (
    let v2 : Int := (r0.getD t1.toNat 0)
    .br (inRange t10 r0.length) (
    let v3 : Int := (r0.getD t10.toNat 0)
    .call (cmp_Less N v2 v3) fun y4 => (
    .br y4 (
      let v5 : Int := (IntKind.i64.wrap (t10 - 1))
      .ret (.inl v5)) (
      .ret (.inr t10)))) .fail) .fail) (
    .ret (.inr t10))
noncomputable def slices_partitionEqualOrdered_l5 (N : Nat) (t1 : Int) (t9 : Int) (r0 : (List Int)) (v : Int) : Option Int := loopN (fun v => slices_partitionEqualOrdered_l5_T N t1 t9 r0 v) N v
noncomputable def slices_partitionEqualOrdered_l10003_T (N : Nat) (t1 : Int) (t9 : Int) (t10 : Int) (r0 : (List Int)) : Tree ((Int × Int × (List Int)) ⊕ (Int × (List Int))) :=
  .call (slices_partitionEqualOrdered_l3 N t1 t10 r0 t9) fun y1 => (
  .call (slices_partitionEqualOrdered_l5 N t1 y1 r0 t10) fun y2 => (
  let v3 : Bool := (ltI y2 y1)
  .br v3 (
    .ret (.inr (y1, r0))) (
    .br (inRange y2 r0.length) (
    let v4 : Int := (r0.getD y2.toNat 0)
    .br (inRange y1 r0.length) (
    let v5 : Int := (r0.getD y1.toNat 0)
    .br (inRange y1 r0.length) (
    let v6 : (List Int) := (r0.set y1.toNat v4)
    .br (inRange y2 v6.length) (
    let v7 : (List Int) := (v6.set y2.toNat v5)
    let v8 : Int := (IntKind.i64.wrap (y1 + 1))
    let v9 : Int := (IntKind.i64.wrap (y2 - 1))
    .ret (.inl (v8, v9, v7))) .fail) .fail) .fail) .fail)))
noncomputable def slices_partitionEqualOrdered_l10003 (N : Nat) (t1 : Int) (v : (Int × Int × (List Int))) : Option (Int × (List Int)) := loopN (fun v => slices_partitionEqualOrdered_l10003_T N t1 v.1 v.2.1 v.2.2) N v
noncomputable def slices_partitionEqualOrdered_T (N : Nat) (t1 : Int) (t2 : Int) (t3 : Int) (r0 : (List Int)) : Tree (Int × (List Int)) :=
  .br (inRange t3 r0.length) (
  let v1 : Int := (r0.getD t3.toNat 0)
  .br (inRange t1 r0.length) (
  let v2 : Int := (r0.getD t1.toNat 0)
  .br (inRange t1 r0.length) (
  let v3 : (List Int) := (r0.set t1.toNat v1)
  .br (inRange t3 v3.length) (
  let v4 : (List Int) := (v3.set t3.toNat v2)
  let v5 : Int := (IntKind.i64.wrap (t1 + 1))
  let v6 : Int := (IntKind.i64.wrap (t2 - 1))
  .call (slices_partitionEqualOrdered_l10003 N t1 (v5, v6, v4)) fun y7 => (
  .ret (y7.1, y7.2))) .fail) .fail) .fail) .fail
noncomputable def slices_partitionEqualOrdered (N : Nat) (t1 : Int) (t2 : Int) (t3 : Int) (r0 : (List Int)) : Option (Int × (List Int)) := (slices_partitionEqualOrdered_T N t1 t2 t3 r0).run some
/-! ### slices.partitionOrdered[uint64] -/
noncomputable def slices_partitionOrdered_l3_T (N : Nat) (t1 : Int) (t11 : Int) (r0 : (List Int)) (t10 : Int) : Tree (Int ⊕ Int) :=
  let v1 : Bool := (leI t10 t11)
  .br v1 (
    .br (inRange t10 r0.length) (
    let v2 : Int := (r0.getD t10.toNat 0)
    .br (inRange t1 r0.length) (
    let v3 : Int := (r0.getD t1.toNat 0)
    .call (cmp_Less N v2 v3) fun y4 => (
    .br y4 (
      let v5 : Int := (IntKind.i64.wrap (t10 + 1))
      .ret (.inl v5)) (
      .ret (.inr t10)))) .fail) .fail) (
    .ret (.inr t10))
noncomputable def slices_partitionOrdered_l3 (N : Nat) (t1 : Int) (t11 : Int) (r0 : (List Int)) (v : Int) : Option Int := loopN (fun v => slices_partitionOrdered_l3_T N t1 t11 r0 v) N v
noncomputable def slices_partitionOrdered_l5_T (N : Nat) (t1 : Int) (t10 : Int) (r0 : (List Int)) (t11 : Int) : Tree (Int ⊕ Int) :=
  let v1 : Bool := (leI t10 t11)
  .br v1 (
    .br (inRange t11 r0.length) (
    let v2 : Int := (r0.getD t11.toNat 0)
    .br (inRange t1 r0.length) (
    let v3 : Int := (r0.getD t1.toNat 0)
    .call (cmp_Less N v2 v3) fun y4 => (
    let v5 : Bool := (!y4)
    .br v5 (
      let v6 : Int := (IntKind.i64.wrap (t11 - 1))
      .ret (.inl v6)) (
      .ret (.inr t11)))) .fail) .fail) (
    .ret (.inr t11))
noncomputable def slices_partitionOrdered_l5 (N : Nat) (t1 : Int) (t10 : Int) (r0 : (List Int)) (v : Int) : Option Int := loopN (fun v => slices_partitionOrdered_l5_T N t1 t10 r0 v) N v
noncomputable def slices_partitionOrdered_l13_T (N : Nat) (t1 : Int) (t11 : Int) (r0 : (List Int)) (t10 : Int) : Tree (Int ⊕ Int) :=
  let v1 : Bool := (leI t10 t11)
  .br v1 (
    .br (inRange t10 r0.length) (
    let v2 : Int := (r0.getD t10.toNat 0)
    .br (inRange t1 r0.length) (
    let v3 : Int := (r0.getD t1.toNat 0)
    .call (cmp_Less N v2 v3) fun y4 => (
    .br y4 (
      let v5 : Int := (IntKind.i64.wrap (t10 + 1))
      .ret (.inl v5)) (
      .ret (.inr t10)))) .fail) .fail) (
    .ret (.inr t10))
noncomputable def slices_partitionOrdered_l13 (N : Nat) (t1 : Int) (t11 : Int) (r0 : (List Int)) (v : Int) : Option Int := loopN (fun v => slices_partitionOrdered_l13_T N t1 t11 r0 v) N v
noncomputable def slices_partitionOrdered_l15_T (N : Nat) (t1 : Int) (t10 : Int) (r0 : (List Int)) (t11 : Int) : Tree (Int ⊕ Int) :=
  let v1 : Bool := (leI t10 t11)
  .br v1 (
    .br (inRange t11 r0.length) (
    let v2 : Int := (r0.getD t11.toNat 0)
    .br (inRange t1 r0.length) (
    let v3 : Int := (r0.getD t1.toNat 0)
    .call (cmp_Less N v2 v3) fun y4 => (
    let v5 : Bool := (!y4)
    .br v5 (
      let v6 : Int := (IntKind.i64.wrap (t11 - 1))
      .ret (.inl v6)) (
      .ret (.inr t11)))) .fail) .fail) (
    .ret (.inr t11))
noncomputable def slices_partitionOrdered_l15 (N : Nat) (t1 : Int) (t10 : Int) (r0 : (List Int)) (v : Int) : Option Int := loopN (fun v => slices_partitionOrdered_l15_T N t1 t10 r0 v) N v
noncomputable def slices_partitionOrdered_l10013_T (N : Nat) (t1 : Int) (t10 : Int) (t11 : Int) (r0 : (List Int)) : Tree ((Int × Int × (List Int)) ⊕ (Int × (List Int))) :=
  .call (slices_partitionOrdered_l13 N t1 t11 r0 t10) fun y1 => (
  .call (slices_partitionOrdered_l15 N t1 y1 r0 t11) fun y2 => (
  let v3 : Bool := (ltI y2 y1)
  .br v3 (
    .ret (.inr (y2, r0))) (
    .br (inRange y2 r0.length) (
    let v4 : Int := (r0.getD y2.toNat 0)
    .br (inRange y1 r0.length) (
    let v5 : Int := (r0.getD y1.toNat 0)
    .br (inRange y1 r0.length) (
    let v6 : (List Int) := (r0.set y1.toNat v4)
    .br (inRange y2 v6.length) (
    let v7 : (List Int) := (v6.set y2.toNat v5)
    let v8 : Int := (IntKind.i64.wrap (y1 + 1))
    let v9 : Int := (IntKind.i64.wrap (y2 - 1))
    .ret (.inl (v8, v9, v7))) .fail) .fail) .fail) .fail)))
noncomputable def slices_partitionOrdered_l10013 (N : Nat) (t1 : Int) (v : (Int × Int × (List Int))) : Option (Int × (List Int)) := loopN (fun v => slices_partitionOrdered_l10013_T N t1 v.1 v.2.1 v.2.2) N v
noncomputable def slices_partitionOrdered_T (N : Nat) (t1 : Int) (t2 : Int) (t3 : Int) (r0 : (List Int)) : Tree (Int × Bool × (List Int)) :=
  .br (inRange t3 r0.length) (
  let v1 : Int := (r0.getD t3.toNat 0)
  .br (inRange t1 r0.length) (
  let v2 : Int := (r0.getD t1.toNat 0)
  .br (inRange t1 r0.length) (
  let v3 : (List Int) := (r0.set t1.toNat v1)
  .br (inRange t3 v3.length) (
  let v4 : (List Int) := (v3.set t3.toNat v2)
  let v5 : Int := (IntKind.i64.wrap (t1 + 1))
  let v6 : Int := (IntKind.i64.wrap (t2 - 1))
  .call (slices_partitionOrdered_l3 N t1 v6 v4 v5) fun y7 => (
  .call (slices_partitionOrdered_l5 N t1 y7 v4 v6) fun y8 => (
  let v9 : Bool := (ltI y8 y7)
  .br v9 (
    .br (inRange t1 v4.length) (
    let v10 : Int := (v4.getD t1.toNat 0)
    .br (inRange y8 v4.length) (
    let v11 : Int := (v4.getD y8.toNat 0)
    .br (inRange y8 v4.length) (
    let v12 : (List Int) := (v4.set y8.toNat v10)
    .br (inRange t1 v12.length) (
    let v13 : (List Int) := (v12.set t1.toNat v11)
    .ret (y8, true, v13)) .fail) .fail) .fail) .fail) (
    .br (inRange y8 v4.length) (
    let v14 : Int := (v4.getD y8.toNat 0)
    .br (inRange y7 v4.length) (
    let v15 : Int := (v4.getD y7.toNat 0)
    .br (inRange y7 v4.length) (
    let v16 : (List Int) := (v4.set y7.toNat v14)
    .br (inRange y8 v16.length) (
    let v17 : (List Int) := (v16.set y8.toNat v15)
    let v18 : Int := (IntKind.i64.wrap (y7 + 1))
    let v19 : Int := (IntKind.i64.wrap (y8 - 1))
    .call (slices_partitionOrdered_l10013 N t1 (v18, v19, v17)) fun y20 => (
    .br (inRange t1 y20.2.length) (
    let v21 : Int := (y20.2.getD t1.toNat 0)
    .br (inRange y20.1 y20.2.length) (
    let v22 : Int := (y20.2.getD y20.1.toNat 0)
    .br (inRange y20.1 y20.2.length) (
    let v23 : (List Int) := (y20.2.set y20.1.toNat v21)
    .br (inRange t1 v23.length) (
    let v24 : (List Int) := (v23.set t1.toNat v22)
    .ret (y20.1, false, v24)) .fail) .fail) .fail) .fail)) .fail) .fail) .fail) .fail)))) .fail) .fail) .fail) .fail
noncomputable def slices_partitionOrdered (N : Nat) (t1 : Int) (t2 : Int) (t3 : Int) (r0 : (List Int)) : Option (Int × Bool × (List Int)) := (slices_partitionOrdered_T N t1 t2 t3 r0).run some
/-! ### slices.pdqsortOrdered[uint64] -/
noncomputable def slices_pdqsortOrdered_j18_T (N : Nat) (slices_pdqsortOrdered_r : Int → Int → Int → (List Int) → Option (List Int)) (t1 : Int) (t2 : Int) (t11 : Int) (t87 : Bool) (r0 : (List Int)) : Tree ((Int × (List Int)) ⊕ Unit) :=
  .br t87 (
    .call (slices_partitionEqualOrdered N t1 t2 t11 r0) fun y1 => (
    .ret (.inl (y1.1, y1.2)))) (
    .ret (.inr ()))
noncomputable def slices_pdqsortOrdered_j18 (N : Nat) (slices_pdqsortOrdered_r : Int → Int → Int → (List Int) → Option (List Int)) (t1 : Int) (t2 : Int) (t11 : Int) (t87 : Bool) (r0 : (List Int)) : Option ((Int × (List Int)) ⊕ Unit) := (slices_pdqsortOrdered_j18_T N slices_pdqsortOrdered_r t1 t2 t11 t87 r0).run some
noncomputable def slices_pdqsortOrdered_j20_T (N : Nat) (slices_pdqsortOrdered_r : Int → Int → Int → (List Int) → Option (List Int)) (t1 : Int) (t2 : Int) (t3 : Int) (t10 : Int) (t11 : Int) (r0 : (List Int)) : Tree (Int × Int × Bool × Bool × (List Int)) :=
  .call (slices_partitionOrdered N t1 t2 t11 r0) fun y1 => (
  let v2 : Int := (IntKind.i64.wrap (y1.1 - t1))
  let v3 : Int := (IntKind.i64.wrap (t2 - y1.1))
  let v4 : Int := (IntKind.i64.wrap (t10.tdiv 8))
  let v5 : Bool := (ltI v2 v3)
  .br v5 (
    let v6 : Bool := (leI v4 v2)
    .call (slices_pdqsortOrdered_r t1 y1.1 t3 y1.2.2) fun y7 => (
    let v8 : Int := (IntKind.i64.wrap (y1.1 + 1))
    .ret (v8, t2, v6, y1.2.1, y7))) (
    let v9 : Bool := (leI v4 v3)
    let v10 : Int := (IntKind.i64.wrap (y1.1 + 1))
    .call (slices_pdqsortOrdered_r v10 t2 t3 y1.2.2) fun y11 => (
    .ret (t1, y1.1, v9, y1.2.1, y11))))
noncomputable def slices_pdqsortOrdered_j20 (N : Nat) (slices_pdqsortOrdered_r : Int → Int → Int → (List Int) → Option (List Int)) (t1 : Int) (t2 : Int) (t3 : Int) (t10 : Int) (t11 : Int) (r0 : (List Int)) : Option (Int × Int × Bool × Bool × (List Int)) := (slices_pdqsortOrdered_j20_T N slices_pdqsortOrdered_r t1 t2 t3 t10 t11 r0).run some
noncomputable def slices_pdqsortOrdered_j17_T (N : Nat) (slices_pdqsortOrdered_r : Int → Int → Int → (List Int) → Option (List Int)) (t1 : Int) (t2 : Int) (t3 : Int) (t10 : Int) (t11 : Int) (r0 : (List Int)) : Tree ((Int × (List Int)) ⊕ (Int × Int × Bool × Bool × (List Int))) :=
  let v1 : Bool := (ltI 0 t1)
  .br v1 (
    let v2 : Int := (IntKind.i64.wrap (t1 - 1))
    .br (inRange v2 r0.length) (
    let v3 : Int := (r0.getD v2.toNat 0)
    .br (inRange t11 r0.length) (
    let v4 : Int := (r0.getD t11.toNat 0)
    .call (cmp_Less N v3 v4) fun y5 => (
    let v6 : Bool := (!y5)
    .call (slices_pdqsortOrdered_j18 N slices_pdqsortOrdered_r t1 t2 t11 v6 r0) fun y7 => (
    .alt y7 (fun y8 => (
      .ret (.inl (y8.1, y8.2)))) (fun y9 => (
      .call (slices_pdqsortOrdered_j20 N slices_pdqsortOrdered_r t1 t2 t3 t10 t11 r0) fun y10 => (
      .ret (.inr (y10.1, y10.2.1, y10.2.2.1, y10.2.2.2.1, y10.2.2.2.2)))))))) .fail) .fail) (
    .call (slices_pdqsortOrdered_j18 N slices_pdqsortOrdered_r t1 t2 t11 false r0) fun y11 => (
    .alt y11 (fun y12 => (
      .ret (.inl (y12.1, y12.2)))) (fun y13 => (
      .call (slices_pdqsortOrdered_j20 N slices_pdqsortOrdered_r t1 t2 t3 t10 t11 r0) fun y14 => (
      .ret (.inr (y14.1, y14.2.1, y14.2.2.1, y14.2.2.2.1, y14.2.2.2.2)))))))
noncomputable def slices_pdqsortOrdered_j17 (N : Nat) (slices_pdqsortOrdered_r : Int → Int → Int → (List Int) → Option (List Int)) (t1 : Int) (t2 : Int) (t3 : Int) (t10 : Int) (t11 : Int) (r0 : (List Int)) : Option ((Int × (List Int)) ⊕ (Int × Int × Bool × Bool × (List Int))) := (slices_pdqsortOrdered_j17_T N slices_pdqsortOrdered_r t1 t2 t3 t10 t11 r0).run some
noncomputable def slices_pdqsortOrdered_j15_T (N : Nat) (slices_pdqsortOrdered_r : Int → Int → Int → (List Int) → Option (List Int)) (t1 : Int) (t2 : Int) (t3 : Int) (t8 : Bool) (t9 : Bool) (t10 : Int) (t11 : Int) (t12 : Int) (r0 : (List Int)) : Tree ((List Int) ⊕ (Int × (List Int)) ⊕ (Int × Int × Bool × Bool × (List Int))) :=
  .br t8 (
    .br t9 (
      let v1 : Bool := (t12 == 1)
      .br v1 (
        .call (slices_partialInsertionSortOrdered N t1 t2 r0) fun y2 => (
        .br y2.1 (
          .ret (.inl y2.2)) (
          .call (slices_pdqsortOrdered_j17 N slices_pdqsortOrdered_r t1 t2 t3 t10 t11 y2.2) fun y3 => (
          .alt y3 (fun y4 => (
            .ret (.inr (.inl (y4.1, y4.2))))) (fun y5 => (
            .ret (.inr (.inr (y5.1, y5.2.1, y5.2.2.1, y5.2.2.2.1, y5.2.2.2.2))))))))) (
        .call (slices_pdqsortOrdered_j17 N slices_pdqsortOrdered_r t1 t2 t3 t10 t11 r0) fun y6 => (
        .alt y6 (fun y7 => (
          .ret (.inr (.inl (y7.1, y7.2))))) (fun y8 => (
          .ret (.inr (.inr (y8.1, y8.2.1, y8.2.2.1, y8.2.2.2.1, y8.2.2.2.2)))))))) (
      .call (slices_pdqsortOrdered_j17 N slices_pdqsortOrdered_r t1 t2 t3 t10 t11 r0) fun y9 => (
      .alt y9 (fun y10 => (
        .ret (.inr (.inl (y10.1, y10.2))))) (fun y11 => (
        .ret (.inr (.inr (y11.1, y11.2.1, y11.2.2.1, y11.2.2.2.1, y11.2.2.2.2)))))))) (
    .call (slices_pdqsortOrdered_j17 N slices_pdqsortOrdered_r t1 t2 t3 t10 t11 r0) fun y12 => (
    .alt y12 (fun y13 => (
      .ret (.inr (.inl (y13.1, y13.2))))) (fun y14 => (
      .ret (.inr (.inr (y14.1, y14.2.1, y14.2.2.1, y14.2.2.2.1, y14.2.2.2.2)))))))
noncomputable def slices_pdqsortOrdered_j15 (N : Nat) (slices_pdqsortOrdered_r : Int → Int → Int → (List Int) → Option (List Int)) (t1 : Int) (t2 : Int) (t3 : Int) (t8 : Bool) (t9 : Bool) (t10 : Int) (t11 : Int) (t12 : Int) (r0 : (List Int)) : Option ((List Int) ⊕ (Int × (List Int)) ⊕ (Int × Int × Bool × Bool × (List Int))) := (slices_pdqsortOrdered_j15_T N slices_pdqsortOrdered_r t1 t2 t3 t8 t9 t10 t11 t12 r0).run some
noncomputable def slices_pdqsortOrdered_j10_T (N : Nat) (slices_pdqsortOrdered_r : Int → Int → Int → (List Int) → Option (List Int)) (t1 : Int) (t2 : Int) (t3 : Int) (t8 : Bool) (t9 : Bool) (t10 : Int) (r0 : (List Int)) : Tree ((List Int) ⊕ (Int × (List Int)) ⊕ (Int × Int × Bool × Bool × (List Int))) :=
  .call (slices_choosePivotOrdered N r0 t1 t2) fun y1 => (
  let v2 : Bool := (y1.2 == 2)
  .br v2 (
    .call (slices_reverseRangeOrdered N t1 t2 r0) fun y3 => (
    let v4 : Int := (IntKind.i64.wrap (t2 - 1))
    let v5 : Int := (IntKind.i64.wrap (y1.1 - t1))
    let v6 : Int := (IntKind.i64.wrap (v4 - v5))
    .call (slices_pdqsortOrdered_j15 N slices_pdqsortOrdered_r t1 t2 t3 t8 t9 t10 v6 1 y3) fun y7 => (
    .alt y7 (fun y8 => (
      .ret (.inl y8))) (fun y9 => (
      .alt y9 (fun y10 => (
        .ret (.inr (.inl (y10.1, y10.2))))) (fun y11 => (
        .ret (.inr (.inr (y11.1, y11.2.1, y11.2.2.1, y11.2.2.2.1, y11.2.2.2.2)))))))))) (
    .call (slices_pdqsortOrdered_j15 N slices_pdqsortOrdered_r t1 t2 t3 t8 t9 t10 y1.1 y1.2 r0) fun y12 => (
    .alt y12 (fun y13 => (
      .ret (.inl y13))) (fun y14 => (
      .alt y14 (fun y15 => (
        .ret (.inr (.inl (y15.1, y15.2))))) (fun y16 => (
        .ret (.inr (.inr (y16.1, y16.2.1, y16.2.2.1, y16.2.2.2.1, y16.2.2.2.2))))))))))
noncomputable def slices_pdqsortOrdered_j10 (N : Nat) (slices_pdqsortOrdered_r : Int → Int → Int → (List Int) → Option (List Int)) (t1 : Int) (t2 : Int) (t3 : Int) (t8 : Bool) (t9 : Bool) (t10 : Int) (r0 : (List Int)) : Option ((List Int) ⊕ (Int × (List Int)) ⊕ (Int × Int × Bool × Bool × (List Int))) := (slices_pdqsortOrdered_j10_T N slices_pdqsortOrdered_r t1 t2 t3 t8 t9 t10 r0).run some
noncomputable def slices_pdqsortOrdered_l2_T (N : Nat) (slices_pdqsortOrdered_r : Int → Int → Int → (List Int) → Option (List Int)) (t1 : Int) (t2 : Int) (t3 : Int) (t8 : Bool) (t9 : Bool) (r0 : (List Int)) : Tree ((Int × Int × Int × Bool × Bool × (List Int)) ⊕ (List Int)) :=
  let v1 : Int := (IntKind.i64.wrap (t2 - t1))
  let v2 : Bool := (leI v1 12)
  .br v2 (
    .call (slices_insertionSortOrdered N t1 t2 r0) fun y3 => (
    .ret (.inr y3))) (
    let v4 : Bool := (t3 == 0)
    .br v4 (
      .call (slices_heapSortOrdered N t1 t2 r0) fun y5 => (
      .ret (.inr y5))) (
      let v6 : Bool := (!t8)
      .br v6 (
        .call (slices_breakPatternsOrdered N t1 t2 r0) fun y7 => (
        let v8 : Int := (IntKind.i64.wrap (t3 - 1))
        .call (slices_pdqsortOrdered_j10 N slices_pdqsortOrdered_r t1 t2 v8 t8 t9 v1 y7) fun y9 => (
        .alt y9 (fun y10 => (
          .ret (.inr y10))) (fun y11 => (
          .alt y11 (fun y12 => (
            .ret (.inl (y12.1, t2, v8, t8, t9, y12.2)))) (fun y13 => (
            .ret (.inl (y13.1, y13.2.1, v8, y13.2.2.1, y13.2.2.2.1, y13.2.2.2.2))))))))) (
        .call (slices_pdqsortOrdered_j10 N slices_pdqsortOrdered_r t1 t2 t3 t8 t9 v1 r0) fun y14 => (
        .alt y14 (fun y15 => (
          .ret (.inr y15))) (fun y16 => (
          .alt y16 (fun y17 => (
            .ret (.inl (y17.1, t2, t3, t8, t9, y17.2)))) (fun y18 => (
            .ret (.inl (y18.1, y18.2.1, t3, y18.2.2.1, y18.2.2.2.1, y18.2.2.2.2))))))))))
noncomputable def slices_pdqsortOrdered_l2 (N : Nat) (slices_pdqsortOrdered_r : Int → Int → Int → (List Int) → Option (List Int)) (v : (Int × Int × Int × Bool × Bool × (List Int))) : Option (List Int) := loopN (fun v => slices_pdqsortOrdered_l2_T N slices_pdqsortOrdered_r v.1 v.2.1 v.2.2.1 v.2.2.2.1 v.2.2.2.2.1 v.2.2.2.2.2) N v
noncomputable def slices_pdqsortOrdered_T (N : Nat) (slices_pdqsortOrdered_r : Int → Int → Int → (List Int) → Option (List Int)) (t1 : Int) (t2 : Int) (t3 : Int) (r0 : (List Int)) : Tree (List Int) :=
  .call (slices_pdqsortOrdered_l2 N slices_pdqsortOrdered_r (t1, t2, t3, true, true, r0)) fun y1 => (
  .ret y1)
noncomputable def slices_pdqsortOrdered_R (N : Nat) : Nat → Int → Int → Int → (List Int) → Option (List Int)
  | 0 => fun _ _ _ _ => none
  | k + 1 => fun t1 t2 t3 r0 => (slices_pdqsortOrdered_T N (slices_pdqsortOrdered_R N k) t1 t2 t3 r0).run some
noncomputable def slices_pdqsortOrdered (N : Nat) : Int → Int → Int → (List Int) → Option (List Int) := slices_pdqsortOrdered_R N N
/-! ### slices.Sort[[]uint64,uint64] -/
noncomputable def slices_Sort_T (N : Nat) (r0 : (List Int)) : Tree (List Int) :=
  let v1 : Int := (r0.length : Int)
  let v2 : Int := (IntKind.u64.wrap v1)
  .call (bits_Len N v2) fun y3 => (
  .call (slices_pdqsortOrdered N 0 v1 y3 r0) fun y4 => (
  .ret y4))
noncomputable def slices_Sort (N : Nat) (r0 : (List Int)) : Option (List Int) := (slices_Sort_T N r0).run some
/-! ### bauta/anf.made -/
noncomputable def anf_made_l7_T (N : Nat) (t4 : Int) (r0 : (List Int)) (t5 : Int) : Tree (Int ⊕ Int) :=
  let v1 : Int := (r0.length : Int)
  let v2 : Bool := (ltI t5 v1)
  .br v2 (
    .br (inRange t5 r0.length) (
    let v3 : Int := (r0.getD t5.toNat 0)
    .br (inRange t4 r0.length) (
    let v4 : Int := (r0.getD t4.toNat 0)
    let v5 : Bool := (v3 == v4)
    .br v5 (
      let v6 : Int := (IntKind.i64.wrap (t5 + 1))
      .ret (.inl v6)) (
      .ret (.inr t5))) .fail) .fail) (
    .ret (.inr t5))
noncomputable def anf_made_l7 (N : Nat) (t4 : Int) (r0 : (List Int)) (v : Int) : Option Int := loopN (fun v => anf_made_l7_T N t4 r0 v) N v
noncomputable def anf_made_l5_T (N : Nat) (t3 : Int) (t4 : Int) (r0 : (List Int)) : Tree ((Int × Int × (List Int)) ⊕ (Int × (List Int))) :=
  let v1 : Int := (r0.length : Int)
  let v2 : Bool := (ltI t4 v1)
  .br v2 (
    .call (anf_made_l7 N t4 r0 t4) fun y3 => (
    let v4 : Int := (IntKind.i64.wrap (y3 - t4))
    let v5 : Int := (v4.tmod 2)
    let v6 : Bool := (v5 == 1)
    .br v6 (
      .br (inRange t4 r0.length) (
      let v7 : Int := (r0.getD t4.toNat 0)
      .br (inRange t3 r0.length) (
      let v8 : (List Int) := (r0.set t3.toNat v7)
      let v9 : Int := (IntKind.i64.wrap (t3 + 1))
      .ret (.inl (v9, y3, v8))) .fail) .fail) (
      .ret (.inl (t3, y3, r0))))) (
    .ret (.inr (t3, r0)))
noncomputable def anf_made_l5 (N : Nat) (v : (Int × Int × (List Int))) : Option (Int × (List Int)) := loopN (fun v => anf_made_l5_T N v.1 v.2.1 v.2.2) N v
noncomputable def anf_made_T (N : Nat) (t0 : (List Int)) : Tree (Nat × (List Int)) :=
  .call (slices_Clone N t0) fun y1 => (
  .call (slices_Sort N y1) fun y2 => (
  .call (anf_made_l5 N (0, 0, y2)) fun y3 => (
  .br (leI 0 y3.1 && leI y3.1 (y3.2.length : Int)) (
  .ret (y3.1.toNat, y3.2)) .fail)))
noncomputable def anf_made (N : Nat) (t0 : (List Int)) : Option (Nat × (List Int)) := (anf_made_T N t0).run some
/-! ### bauta/anf.Make -/
noncomputable def anf_Make_T (N : Nat) (t0 : (List Int)) : Tree (Nat × (List Int)) :=
  .call (anf_made N t0) fun y1 => (
  .ret (y1.1, y1.2))
noncomputable def anf_Make (N : Nat) (t0 : (List Int)) : Option (Nat × (List Int)) := (anf_Make_T N t0).run some
/-! ### bauta/bautaref34.put -/
noncomputable def bautaref34_put_l2_T (N : Nat) (t0 : (List Int)) (t1 : Int) (t5 : Int) : Tree (Int ⊕ Int) :=
  let v1 : Int := (t0.length : Int)
  let v2 : Bool := (ltI t5 v1)
  .br v2 (
    .br (inRange t5 t0.length) (
    let v3 : Int := (t0.getD t5.toNat 0)
    let v4 : Bool := (ltI v3 t1)
    .br v4 (
      let v5 : Int := (IntKind.i64.wrap (t5 + 1))
      .ret (.inl v5)) (
      .ret (.inr t5))) .fail) (
    .ret (.inr t5))
noncomputable def bautaref34_put_l2 (N : Nat) (t0 : (List Int)) (t1 : Int) (v : Int) : Option Int := loopN (fun v => bautaref34_put_l2_T N t0 t1 v) N v
noncomputable def bautaref34_put_j5_T (N : Nat) (t0 : (List Int)) (t5 : Int) (t31 : Bool) : Tree ((List Int) ⊕ Unit) :=
  .br t31 (
    .br (leI 0 t5 && leI t5 (t0.length : Int)) (
    let v1 : (List Int) := (t0.take t5.toNat)
    .br (ltI ((0 + (v1.length : Int)) * 8) 140737488355328) (
    let v2 : Int := (IntKind.i64.wrap (t5 + 1))
    .br (leI 0 v2 && leI v2 (t0.length : Int)) (
    let v3 : (List Int) := (t0.drop v2.toNat)
    .br (ltI (((v1.length : Int) + (v3.length : Int)) * 8) 140737488355328) (
    let v4 : (List Int) := (v1 ++ v3)
    .ret (.inl v4)) .fail) .fail) .fail) .fail) (
    .ret (.inr ()))
noncomputable def bautaref34_put_j5 (N : Nat) (t0 : (List Int)) (t5 : Int) (t31 : Bool) : Option ((List Int) ⊕ Unit) := (bautaref34_put_j5_T N t0 t5 t31).run some
noncomputable def bautaref34_put_j6_T (N : Nat) (t0 : (List Int)) (t1 : Int) (t5 : Int) : Tree (List Int) :=
  .br (leI 0 t5 && leI t5 (t0.length : Int)) (
  let v1 : (List Int) := (t0.take t5.toNat)
  .br (ltI ((0 + (v1.length : Int)) * 8) 140737488355328) (
  .br (ltI (((v1.length : Int) + 1) * 8) 140737488355328) (
  let v2 : (List Int) := (v1 ++ [t1])
  .br (leI 0 t5 && leI t5 (t0.length : Int)) (
  let v3 : (List Int) := (t0.drop t5.toNat)
  .br (ltI (((v2.length : Int) + (v3.length : Int)) * 8) 140737488355328) (
  let v4 : (List Int) := (v2 ++ v3)
  .ret v4) .fail) .fail) .fail) .fail) .fail
noncomputable def bautaref34_put_j6 (N : Nat) (t0 : (List Int)) (t1 : Int) (t5 : Int) : Option (List Int) := (bautaref34_put_j6_T N t0 t1 t5).run some
noncomputable def bautaref34_put_T (N : Nat) (t0 : (List Int)) (t1 : Int) : Tree (List Int) :=
  .call (bautaref34_put_l2 N t0 t1 0) fun y1 => (
  let v2 : Int := (t0.length : Int)
  let v3 : Bool := (ltI y1 v2)
  .br v3 (
    .br (inRange y1 t0.length) (
    let v4 : Int := (t0.getD y1.toNat 0)
    let v5 : Bool := (v4 == t1)
    .call (bautaref34_put_j5 N t0 y1 v5) fun y6 => (
    .alt y6 (fun y7 => (
      .ret y7)) (fun y8 => (
      .call (bautaref34_put_j6 N t0 t1 y1) fun y9 => (
      .ret y9))))) .fail) (
    .call (bautaref34_put_j5 N t0 y1 false) fun y10 => (
    .alt y10 (fun y11 => (
      .ret y11)) (fun y12 => (
      .call (bautaref34_put_j6 N t0 t1 y1) fun y13 => (
      .ret y13))))))
noncomputable def bautaref34_put (N : Nat) (t0 : (List Int)) (t1 : Int) : Option (List Int) := (bautaref34_put_T N t0 t1).run some
/-! ### bauta/bautaref34.Make -/
noncomputable def bautaref34_Make_l3_T (N : Nat) (t0 : (List Int)) (t4 : Int) (r0 : (List Int)) : Tree ((Int × (List Int)) ⊕ (List Int)) :=
  let v1 : Int := (t0.length : Int)
  let v2 : Bool := (ltI t4 v1)
  .br v2 (
    .br (inRange t4 t0.length) (
    let v3 : Int := (t0.getD t4.toNat 0)
    .call (bautaref34_put N r0 v3) fun y4 => (
    let v5 : Int := (IntKind.i64.wrap (t4 + 1))
    .ret (.inl (v5, y4)))) .fail) (
    .ret (.inr r0))
noncomputable def bautaref34_Make_l3 (N : Nat) (t0 : (List Int)) (v : (Int × (List Int))) : Option (List Int) := loopN (fun v => bautaref34_Make_l3_T N t0 v.1 v.2) N v
noncomputable def bautaref34_Make_T (N : Nat) (t0 : (List Int)) : Tree (List Int) :=
  .call (bautaref34_Make_l3 N t0 (0, [])) fun y1 => (
  .ret y1)
noncomputable def bautaref34_Make (N : Nat) (t0 : (List Int)) : Option (List Int) := (bautaref34_Make_T N t0).run some
/-! ### bauta/bautaref34.Same -/
noncomputable def bautaref34_Same_l4_T (N : Nat) (t0 : (List Int)) (t1 : (List Int)) (t5 : Int) : Tree (Int ⊕ (Unit ⊕ Unit)) :=
  let v1 : Int := (t0.length : Int)
  let v2 : Bool := (ltI t5 v1)
  .br v2 (
    .br (inRange t5 t0.length) (
    let v3 : Int := (t0.getD t5.toNat 0)
    .br (inRange t5 t1.length) (
    let v4 : Int := (t1.getD t5.toNat 0)
    let v5 : Bool := (v3 != v4)
    .br v5 (
      .ret (.inr (.inl ()))) (
      let v6 : Int := (IntKind.i64.wrap (t5 + 1))
      .ret (.inl v6))) .fail) .fail) (
    .ret (.inr (.inr ())))
noncomputable def bautaref34_Same_l4 (N : Nat) (t0 : (List Int)) (t1 : (List Int)) (v : Int) : Option (Unit ⊕ Unit) := loopN (fun v => bautaref34_Same_l4_T N t0 t1 v) N v
noncomputable def bautaref34_Same_T (N : Nat) (t0 : (List Int)) (t1 : (List Int)) : Tree Bool :=
  let v1 : Int := (t0.length : Int)
  let v2 : Int := (t1.length : Int)
  let v3 : Bool := (v1 != v2)
  .br v3 (
    .ret false) (
    .call (bautaref34_Same_l4 N t0 t1 0) fun y4 => (
    .alt y4 (fun y5 => (
      .ret false)) (fun y6 => (
      .ret true))))
noncomputable def bautaref34_Same (N : Nat) (t0 : (List Int)) (t1 : (List Int)) : Option Bool := (bautaref34_Same_T N t0 t1).run some
/-! ### bauta/anf.can -/
noncomputable def anf_can_l2_T (N : Nat) (t0 : (List Int)) (t5 : Int) (t6 : Int) : Tree (Int ⊕ (Unit ⊕ Unit)) :=
  let v1 : Bool := (ltI t6 t5)
  .br v1 (
    let v2 : Bool := (ltI 0 t6)
    .br v2 (
      .br (inRange t6 t0.length) (
      let v3 : Int := (t0.getD t6.toNat 0)
      let v4 : Int := (IntKind.i64.wrap (t6 - 1))
      .br (inRange v4 t0.length) (
      let v5 : Int := (t0.getD v4.toNat 0)
      let v6 : Bool := (leI v3 v5)
      .br v6 (
        .ret (.inr (.inl ()))) (
        let v7 : Int := (IntKind.i64.wrap (t6 + 1))
        .ret (.inl v7))) .fail) .fail) (
      let v8 : Int := (IntKind.i64.wrap (t6 + 1))
      .ret (.inl v8))) (
    .ret (.inr (.inr ())))
noncomputable def anf_can_l2 (N : Nat) (t0 : (List Int)) (t5 : Int) (v : Int) : Option (Unit ⊕ Unit) := loopN (fun v => anf_can_l2_T N t0 t5 v) N v
noncomputable def anf_can_T (N : Nat) (t0 : (List Int)) : Tree Bool :=
  let v1 : Int := (t0.length : Int)
  .call (anf_can_l2 N t0 v1 0) fun y2 => (
  .alt y2 (fun y3 => (
    .ret false)) (fun y4 => (
    .ret true)))
noncomputable def anf_can (N : Nat) (t0 : (List Int)) : Option Bool := (anf_can_T N t0).run some
/-! ### bauta/anf.Can -/
noncomputable def anf_Can_T (N : Nat) (t0 : (List Int)) : Tree Bool :=
  .call (anf_can N t0) fun y1 => (
  .ret y1)
noncomputable def anf_Can (N : Nat) (t0 : (List Int)) : Option Bool := (anf_Can_T N t0).run some
/-! ### bauta/bautaref34.Can -/
noncomputable def bautaref34_Can_T (N : Nat) (t0 : (List Int)) : Tree Bool :=
  .call (bautaref34_Make N t0) fun y1 => (
  .call (bautaref34_Same N y1 t0) fun y2 => (
  .ret y2))
noncomputable def bautaref34_Can (N : Nat) (t0 : (List Int)) : Option Bool := (bautaref34_Can_T N t0).run some
/-! ### bauta/anf.poly -/
noncomputable def anf_poly_T (N : Nat) (t0 : (List Int)) : Tree (Unit ⊕ (Nat × (List Int))) :=
  .call (anf_can N t0) fun y1 => (
  .br y1 (
    .ret (.inl ())) (
    .call (anf_made N t0) fun y2 => (
    .ret (.inr (y2.1, y2.2)))))
noncomputable def anf_poly (N : Nat) (t0 : (List Int)) : Option (Unit ⊕ (Nat × (List Int))) := (anf_poly_T N t0).run some
/-! ### bauta/anf.mul -/
noncomputable def anf_mul_l8_T (N : Nat) (t8 : Int) (t23 : (List Int)) (t24 : Int) (t25 : Int) (r0 : (List Int)) : Tree ((Int × (List Int)) ⊕ (List Int)) :=
  let v1 : Bool := (ltI t25 t24)
  .br v1 (
    .br (inRange t25 t23.length) (
    let v2 : Int := (t23.getD t25.toNat 0)
    let v3 : Int := (IntKind.u64.wrap (((BitVec.ofInt 64 t8) ||| (BitVec.ofInt 64 v2)).toNat : Int))
    .br (ltI (((r0.length : Int) + 1) * 8) 140737488355328) (
    let v4 : (List Int) := (r0 ++ [v3])
    let v5 : Int := (IntKind.i64.wrap (t25 + 1))
    .ret (.inl (v5, v4))) .fail) .fail) (
    .ret (.inr r0))
noncomputable def anf_mul_l8 (N : Nat) (t8 : Int) (t23 : (List Int)) (t24 : Int) (v : (Int × (List Int))) : Option (List Int) := loopN (fun v => anf_mul_l8_T N t8 t23 t24 v.1 v.2) N v
noncomputable def anf_mul_l5_T (N : Nat) (t1 : (List Int)) (t17 : (List Int)) (t18 : Int) (t19 : Int) (r0 : (List Int)) : Tree ((Int × (List Int)) ⊕ (List Int)) :=
  let v1 : Bool := (ltI t19 t18)
  .br v1 (
    .br (inRange t19 t17.length) (
    let v2 : Int := (t17.getD t19.toNat 0)
    let v3 : Int := (t1.length : Int)
    .call (anf_mul_l8 N v2 t1 v3 (0, r0)) fun y4 => (
    let v5 : Int := (IntKind.i64.wrap (t19 + 1))
    .ret (.inl (v5, y4)))) .fail) (
    .ret (.inr r0))
noncomputable def anf_mul_l5 (N : Nat) (t1 : (List Int)) (t17 : (List Int)) (t18 : Int) (v : (Int × (List Int))) : Option (List Int) := loopN (fun v => anf_mul_l5_T N t1 t17 t18 v.1 v.2) N v
noncomputable def anf_mul_T (N : Nat) (t0 : (List Int)) (t1 : (List Int)) : Tree (Unit ⊕ (Nat × (List Int))) :=
  let v1 : Int := (t0.length : Int)
  let v2 : Int := (t1.length : Int)
  let v3 : Int := (IntKind.i64.wrap (v1 * v2))
  let v4 : Bool := (ltI 65536 v3)
  .br v4 (
    .ret (.inl ())) (
    let v5 : Int := (t0.length : Int)
    .call (anf_mul_l5 N t1 t0 v5 (0, [])) fun y6 => (
    .call (anf_made N y6) fun y7 => (
    let v8 : Int := (y7.1 : Int)
    let v9 : Bool := (ltI 4096 v8)
    .br v9 (
      .ret (.inl ())) (
      .ret (.inr (y7.1, y7.2))))))
noncomputable def anf_mul (N : Nat) (t0 : (List Int)) (t1 : (List Int)) : Option (Unit ⊕ (Nat × (List Int))) := (anf_mul_T N t0 t1).run some
/-! ### bauta/anf.Mul -/
noncomputable def anf_Mul_T (N : Nat) (t0 : (List Int)) (t1 : (List Int)) : Tree (Unit ⊕ (Nat × (List Int))) :=
  .call (anf_poly N t0) fun y1 => (
  .alt y1 (fun y2 => (
    .call (anf_poly N t1) fun y4 => (
    .alt y4 (fun y5 => (
      .call (anf_mul N t0 t1) fun y7 => (
      .alt y7 (fun y8 => (
        .ret (.inl ()))) (fun y9 => (
        .ret (.inr (y9.1, y9.2))))))) (fun y6 => (
      .call (anf_mul N t0 ((y6.2.drop 0).take y6.1)) fun y10 => (
      .alt y10 (fun y11 => (
        .ret (.inl ()))) (fun y12 => (
        .ret (.inr (y12.1, y12.2)))))))))) (fun y3 => (
    .call (anf_poly N t1) fun y13 => (
    .alt y13 (fun y14 => (
      .call (anf_mul N ((y3.2.drop 0).take y3.1) t1) fun y16 => (
      .alt y16 (fun y17 => (
        .ret (.inl ()))) (fun y18 => (
        .ret (.inr (y18.1, y18.2))))))) (fun y15 => (
      .call (anf_mul N ((y3.2.drop 0).take y3.1) ((y15.2.drop 0).take y15.1)) fun y19 => (
      .alt y19 (fun y20 => (
        .ret (.inl ()))) (fun y21 => (
        .ret (.inr (y21.1, y21.2)))))))))))
noncomputable def anf_Mul (N : Nat) (t0 : (List Int)) (t1 : (List Int)) : Option (Unit ⊕ (Nat × (List Int))) := (anf_Mul_T N t0 t1).run some
/-! ### strconv.Itoa -/
/-! ### strings.Join -/
/-! ### bauta/anf.term -/
noncomputable def anf_term_l5_T (N : Nat) (t0 : Int) (t7 : Int) (r0 : (List ByteArray)) : Tree ((Int × (List ByteArray)) ⊕ (List ByteArray)) :=
  let v1 : Bool := (ltI t7 64)
  .br v1 (
    .br (!ltI t7 0) (
    let v2 : Int := (t0.fdiv (2 ^ (min t7.toNat 64)))
    let v3 : Int := (IntKind.u64.wrap (((BitVec.ofInt 64 v2) &&& (BitVec.ofInt 64 1)).toNat : Int))
    let v4 : Bool := (v3 == 1)
    .br v4 (
      .call (strconv_Itoa N t7) fun y5 => (
      .br (leI (((⟨#[120]⟩ : ByteArray).size : Int) + y5.size) 9223372036854775807) (
      let v6 : ByteArray := ((⟨#[120]⟩ : ByteArray) ++ y5)
      .br (ltI (((r0.length : Int) + 1) * 16) 140737488355328) (
      let v7 : (List ByteArray) := (r0 ++ [v6])
      let v8 : Int := (IntKind.i64.wrap (t7 + 1))
      .ret (.inl (v8, v7))) .fail) .fail)) (
      let v9 : Int := (IntKind.i64.wrap (t7 + 1))
      .ret (.inl (v9, r0)))) .fail) (
    .ret (.inr r0))
noncomputable def anf_term_l5 (N : Nat) (t0 : Int) (v : (Int × (List ByteArray))) : Option (List ByteArray) := loopN (fun v => anf_term_l5_T N t0 v.1 v.2) N v
noncomputable def anf_term_T (N : Nat) (t0 : Int) : Tree ByteArray :=
  let v1 : Bool := (t0 == 0)
  .br v1 (
    .ret (⟨#[49]⟩ : ByteArray)) (
    .call (anf_term_l5 N t0 (0, [])) fun y2 => (
    .call (strings_Join N y2 (⟨#[42]⟩ : ByteArray)) fun y3 => (
    .ret y3)))
noncomputable def anf_term (N : Nat) (t0 : Int) : Option ByteArray := (anf_term_T N t0).run some
/-! ### bauta/anf.show -/
noncomputable def anf_show_l5_T (N : Nat) (t9 : (List Int)) (t10 : Int) (t11 : Int) (r0 : (List ByteArray)) : Tree ((Int × (List ByteArray)) ⊕ (List ByteArray)) :=
  let v1 : Bool := (ltI t11 t10)
  .br v1 (
    .br (inRange t11 t9.length) (
    let v2 : Int := (t9.getD t11.toNat 0)
    .call (anf_term N v2) fun y3 => (
    .br (ltI (((r0.length : Int) + 1) * 16) 140737488355328) (
    let v4 : (List ByteArray) := (r0 ++ [y3])
    let v5 : Int := (IntKind.i64.wrap (t11 + 1))
    .ret (.inl (v5, v4))) .fail)) .fail) (
    .ret (.inr r0))
noncomputable def anf_show_l5 (N : Nat) (t9 : (List Int)) (t10 : Int) (v : (Int × (List ByteArray))) : Option (List ByteArray) := loopN (fun v => anf_show_l5_T N t9 t10 v.1 v.2) N v
noncomputable def anf_show_T (N : Nat) (t0 : (List Int)) : Tree ByteArray :=
  let v1 : Int := (t0.length : Int)
  let v2 : Bool := (v1 == 0)
  .br v2 (
    .ret (⟨#[48]⟩ : ByteArray)) (
    let v3 : Int := (t0.length : Int)
    .call (anf_show_l5 N t0 v3 (0, [])) fun y4 => (
    .call (strings_Join N y4 (⟨#[32, 43, 32]⟩ : ByteArray)) fun y5 => (
    .ret y5)))
noncomputable def anf_show (N : Nat) (t0 : (List Int)) : Option ByteArray := (anf_show_T N t0).run some
/-! ### bauta/anf.Show -/
noncomputable def anf_Show_T (N : Nat) (t0 : (List Int)) : Tree ByteArray :=
  .call (anf_poly N t0) fun y1 => (
  .alt y1 (fun y2 => (
    .call (anf_show N t0) fun y4 => (
    .ret y4))) (fun y3 => (
    .call (anf_show N ((y3.2.drop 0).take y3.1)) fun y5 => (
    .ret y5))))
noncomputable def anf_Show (N : Nat) (t0 : (List Int)) : Option ByteArray := (anf_Show_T N t0).run some
/-! ### bauta/bautalaw34.lives -/
noncomputable def bautalaw34_lives_T (N : Nat) : Tree Bool :=
  .call (anf_Mul N [0, 1] [2]) fun y1 => (
  .alt y1 (fun y2 => (
    .ret false)) (fun y3 => (
    .call (bautaref34_Same N ((y3.2.drop 0).take y3.1) [2, 3]) fun y4 => (
    .br y4 (
      .call (anf_Show N ((y3.2.drop 0).take y3.1)) fun y5 => (
      let v6 : Bool := (y5.toList == (⟨#[120, 49, 32, 43, 32, 120, 48, 42, 120, 49]⟩ : ByteArray).toList)
      .ret v6)) (
      .ret false)))))
noncomputable def bautalaw34_lives (N : Nat) : Option Bool := (bautalaw34_lives_T N).run some
/-! ### bauta/bautalaw34.AnfMakes -/
noncomputable def bautalaw34_AnfMakes_T (N : Nat) (t0 : (List Int)) : Tree Bool :=
  .call (bautalaw34_short N t0) fun y1 => (
  .call (bautalaw34_short N y1) fun y2 => (
  .call (anf_Make N y2) fun y3 => (
  .call (bautaref34_Make N y1) fun y4 => (
  .call (bautaref34_Same N ((y3.2.drop 0).take y3.1) y4) fun y5 => (
  .br y5 (
    .call (bautalaw34_short N y1) fun y6 => (
    .call (anf_Can N y6) fun y7 => (
    .call (bautaref34_Can N y1) fun y8 => (
    let v9 : Bool := (y7 == y8)
    .br v9 (
      .call (anf_Can N ((y3.2.drop 0).take y3.1)) fun y10 => (
      .br y10 (
        .call (bautalaw34_lives N) fun y11 => (
        .ret y11)) (
        .ret false))) (
      .ret false))))) (
    .ret false))))))
noncomputable def bautalaw34_AnfMakes (N : Nat) (t0 : (List Int)) : Option Bool := (bautalaw34_AnfMakes_T N t0).run some
/-! ### bauta/anf.Eval -/
noncomputable def anf_Eval_l3_T (N : Nat) (t1 : Int) (t8 : (List Int)) (t9 : Int) (t5 : Bool) (t10 : Int) : Tree ((Bool × Int) ⊕ Bool) :=
  let v1 : Bool := (ltI t10 t9)
  .br v1 (
    .br (inRange t10 t8.length) (
    let v2 : Int := (t8.getD t10.toNat 0)
    let v3 : Int := (IntKind.u64.wrap (((BitVec.ofInt 64 v2) &&& ~~~ (BitVec.ofInt 64 t1)).toNat : Int))
    let v4 : Bool := (v3 == 0)
    let v5 : Bool := (!(t5 == v4))
    let v6 : Int := (IntKind.i64.wrap (t10 + 1))
    .ret (.inl (v5, v6))) .fail) (
    .ret (.inr t5))
noncomputable def anf_Eval_l3 (N : Nat) (t1 : Int) (t8 : (List Int)) (t9 : Int) (v : (Bool × Int)) : Option Bool := loopN (fun v => anf_Eval_l3_T N t1 t8 t9 v.1 v.2) N v
noncomputable def anf_Eval_T (N : Nat) (t0 : (List Int)) (t1 : Int) : Tree Bool :=
  let v1 : Int := (t0.length : Int)
  .call (anf_Eval_l3 N t1 t0 v1 (false, 0)) fun y2 => (
  .ret y2)
noncomputable def anf_Eval (N : Nat) (t0 : (List Int)) (t1 : Int) : Option Bool := (anf_Eval_T N t0 t1).run some
/-! ### bauta/bautaref34.bit -/
noncomputable def bautaref34_bit_T (N : Nat) (t0 : Int) (t1 : Int) : Tree Bool :=
  let v1 : Int := (IntKind.u64.wrap t1)
  .br (!ltI v1 0) (
  let v2 : Int := (t0.fdiv (2 ^ (min v1.toNat 64)))
  let v3 : Int := (v2.tmod 2)
  let v4 : Bool := (v3 == 1)
  .ret v4) .fail
noncomputable def bautaref34_bit (N : Nat) (t0 : Int) (t1 : Int) : Option Bool := (bautaref34_bit_T N t0 t1).run some
/-! ### bauta/bautaref34.Eval -/
noncomputable def bautaref34_Eval_l7_T (N : Nat) (t0 : (List Int)) (t1 : Int) (t6 : Int) (t7 : Bool) (t8 : Int) : Tree ((Bool × Int) ⊕ Bool) :=
  let v1 : Bool := (ltI t8 64)
  .br v1 (
    .br (inRange t6 t0.length) (
    let v2 : Int := (t0.getD t6.toNat 0)
    .call (bautaref34_bit N v2 t8) fun y3 => (
    .br y3 (
      .call (bautaref34_bit N t1 t8) fun y4 => (
      let v5 : Bool := (!y4)
      .br v5 (
        let v6 : Int := (IntKind.i64.wrap (t8 + 1))
        .ret (.inl (false, v6))) (
        let v7 : Int := (IntKind.i64.wrap (t8 + 1))
        .ret (.inl (t7, v7))))) (
      let v8 : Int := (IntKind.i64.wrap (t8 + 1))
      .ret (.inl (t7, v8))))) .fail) (
    .ret (.inr t7))
noncomputable def bautaref34_Eval_l7 (N : Nat) (t0 : (List Int)) (t1 : Int) (t6 : Int) (v : (Bool × Int)) : Option Bool := loopN (fun v => bautaref34_Eval_l7_T N t0 t1 t6 v.1 v.2) N v
noncomputable def bautaref34_Eval_l3_T (N : Nat) (t0 : (List Int)) (t1 : Int) (t5 : Bool) (t6 : Int) : Tree ((Bool × Int) ⊕ Bool) :=
  let v1 : Int := (t0.length : Int)
  let v2 : Bool := (ltI t6 v1)
  .br v2 (
    .call (bautaref34_Eval_l7 N t0 t1 t6 (true, 0)) fun y3 => (
    .br y3 (
      let v4 : Bool := (!t5)
      let v5 : Int := (IntKind.i64.wrap (t6 + 1))
      .ret (.inl (v4, v5))) (
      let v6 : Int := (IntKind.i64.wrap (t6 + 1))
      .ret (.inl (t5, v6))))) (
    .ret (.inr t5))
noncomputable def bautaref34_Eval_l3 (N : Nat) (t0 : (List Int)) (t1 : Int) (v : (Bool × Int)) : Option Bool := loopN (fun v => bautaref34_Eval_l3_T N t0 t1 v.1 v.2) N v
noncomputable def bautaref34_Eval_T (N : Nat) (t0 : (List Int)) (t1 : Int) : Tree Bool :=
  .call (bautaref34_Eval_l3 N t0 t1 (false, 0)) fun y1 => (
  .ret y1)
noncomputable def bautaref34_Eval (N : Nat) (t0 : (List Int)) (t1 : Int) : Option Bool := (bautaref34_Eval_T N t0 t1).run some
/-! ### bauta/anf.add -/
noncomputable def anf_add_j4_T (N : Nat) (t0 : (List Int)) (t1 : (List Int)) (r0 : (List Int)) : Tree ((List Int) × (List Int) × (List Int)) :=
  .br (inRange 0 t0.length) (
  let v1 : Int := (t0.getD 0 0)
  .br (inRange 0 t1.length) (
  let v2 : Int := (t1.getD 0 0)
  let v3 : Bool := (ltI v1 v2)
  .br v3 (
    .br (inRange 0 t0.length) (
    let v4 : Int := (t0.getD 0 0)
    .br (ltI (((r0.length : Int) + 1) * 8) 140737488355328) (
    let v5 : (List Int) := (r0 ++ [v4])
    .br (leI 0 1 && leI 1 (t0.length : Int)) (
    let v6 : (List Int) := (t0.drop 1)
    .ret (v6, t1, v5)) .fail) .fail) .fail) (
    .br (inRange 0 t0.length) (
    let v7 : Int := (t0.getD 0 0)
    .br (inRange 0 t1.length) (
    let v8 : Int := (t1.getD 0 0)
    let v9 : Bool := (ltI v8 v7)
    .br v9 (
      .br (inRange 0 t1.length) (
      let v10 : Int := (t1.getD 0 0)
      .br (ltI (((r0.length : Int) + 1) * 8) 140737488355328) (
      let v11 : (List Int) := (r0 ++ [v10])
      .br (leI 0 1 && leI 1 (t1.length : Int)) (
      let v12 : (List Int) := (t1.drop 1)
      .ret (t0, v12, v11)) .fail) .fail) .fail) (
      .br (leI 0 1 && leI 1 (t0.length : Int)) (
      let v13 : (List Int) := (t0.drop 1)
      .br (leI 0 1 && leI 1 (t1.length : Int)) (
      let v14 : (List Int) := (t1.drop 1)
      .ret (v13, v14, r0)) .fail) .fail)) .fail) .fail)) .fail) .fail
noncomputable def anf_add_j4 (N : Nat) (t0 : (List Int)) (t1 : (List Int)) (r0 : (List Int)) : Option ((List Int) × (List Int) × (List Int)) := (anf_add_j4_T N t0 t1 r0).run some
noncomputable def anf_add_l2_T (N : Nat) (t0 : (List Int)) (t1 : (List Int)) (r0 : (List Int)) : Tree (((List Int) × (List Int) × (List Int)) ⊕ ((List Int) × (List Int) × (List Int))) :=
  let v1 : Int := (t0.length : Int)
  let v2 : Bool := (ltI 0 v1)
  .br v2 (
    let v3 : Int := (t1.length : Int)
    let v4 : Bool := (ltI 0 v3)
    .br v4 (
      .call (anf_add_j4 N t0 t1 r0) fun y5 => (
      .ret (.inl (y5.1, y5.2.1, y5.2.2)))) (
      .ret (.inr (t0, t1, r0)))) (
    .ret (.inr (t0, t1, r0)))
noncomputable def anf_add_l2 (N : Nat) (v : ((List Int) × (List Int) × (List Int))) : Option ((List Int) × (List Int) × (List Int)) := loopN (fun v => anf_add_l2_T N v.1 v.2.1 v.2.2) N v
noncomputable def anf_add_T (N : Nat) (t0 : (List Int)) (t1 : (List Int)) : Tree (List Int) :=
  .call (anf_add_l2 N (t0, t1, [])) fun y1 => (
  .br (ltI (((y1.2.2.length : Int) + (y1.1.length : Int)) * 8) 140737488355328) (
  let v2 : (List Int) := (y1.2.2 ++ y1.1)
  .br (ltI (((v2.length : Int) + (y1.2.1.length : Int)) * 8) 140737488355328) (
  let v3 : (List Int) := (v2 ++ y1.2.1)
  .ret v3) .fail) .fail)
noncomputable def anf_add (N : Nat) (t0 : (List Int)) (t1 : (List Int)) : Option (List Int) := (anf_add_T N t0 t1).run some
/-! ### bauta/anf.Add -/
noncomputable def anf_Add_T (N : Nat) (t0 : (List Int)) (t1 : (List Int)) : Tree (List Int) :=
  .call (anf_poly N t0) fun y1 => (
  .alt y1 (fun y2 => (
    .call (anf_poly N t1) fun y4 => (
    .alt y4 (fun y5 => (
      .call (anf_add N t0 t1) fun y7 => (
      .ret y7))) (fun y6 => (
      .call (anf_add N t0 ((y6.2.drop 0).take y6.1)) fun y8 => (
      .ret y8)))))) (fun y3 => (
    .call (anf_poly N t1) fun y9 => (
    .alt y9 (fun y10 => (
      .call (anf_add N ((y3.2.drop 0).take y3.1) t1) fun y12 => (
      .ret y12))) (fun y11 => (
      .call (anf_add N ((y3.2.drop 0).take y3.1) ((y11.2.drop 0).take y11.1)) fun y13 => (
      .ret y13)))))))
noncomputable def anf_Add (N : Nat) (t0 : (List Int)) (t1 : (List Int)) : Option (List Int) := (anf_Add_T N t0 t1).run some
/-! ### bauta/bautalaw34.AnfValues -/
noncomputable def bautalaw34_AnfValues_T (N : Nat) (t0 : (List Int)) (t1 : (List Int)) (t2 : Int) : Tree Bool :=
  .call (bautalaw34_short N t0) fun y1 => (
  .call (bautalaw34_short N t1) fun y2 => (
  .call (bautalaw34_short N y1) fun y3 => (
  .call (anf_Eval N y3 t2) fun y4 => (
  .call (bautaref34_Eval N y1 t2) fun y5 => (
  let v6 : Bool := (!(y4 == y5))
  .br v6 (
    .ret false) (
    .call (bautalaw34_short N y1) fun y7 => (
    .call (bautalaw34_short N y2) fun y8 => (
    .call (anf_Mul N y7 y8) fun y9 => (
    .alt y9 (fun y10 => (
      .call (bautaref34_Eval N y1 t2) fun y12 => (
      .call (bautaref34_Eval N y2 t2) fun y13 => (
      .call (bautalaw34_short N y1) fun y14 => (
      .call (bautalaw34_short N y2) fun y15 => (
      .call (anf_Add N y14 y15) fun y16 => (
      .call (anf_Eval N y16 t2) fun y17 => (
      let v18 : Bool := (!(y12 == y13))
      let v19 : Bool := (y17 == v18)
      .br v19 (
        .call (bautalaw34_lives N) fun y20 => (
        .ret y20)) (
        .ret false))))))))) (fun y11 => (
      .call (bautaref34_Eval N y1 t2) fun y21 => (
      .call (bautaref34_Eval N y2 t2) fun y22 => (
      .call (bautalaw34_short N y1) fun y23 => (
      .call (bautalaw34_short N y2) fun y24 => (
      .call (anf_Add N y23 y24) fun y25 => (
      .call (anf_Eval N y25 t2) fun y26 => (
      let v27 : Bool := (!(y21 == y22))
      let v28 : Bool := (y26 == v27)
      .br v28 (
        .call (anf_Eval N ((y11.2.drop 0).take y11.1) t2) fun y29 => (
        .br y21 (
          let v30 : Bool := (y29 == y22)
          .br v30 (
            .call (bautalaw34_lives N) fun y31 => (
            .ret y31)) (
            .ret false)) (
          let v32 : Bool := (y29 == false)
          .br v32 (
            .call (bautalaw34_lives N) fun y33 => (
            .ret y33)) (
            .ret false)))) (
        .ret false))))))))))))))))))
noncomputable def bautalaw34_AnfValues (N : Nat) (t0 : (List Int)) (t1 : (List Int)) (t2 : Int) : Option Bool := (bautalaw34_AnfValues_T N t0 t1 t2).run some
/-! ### slices.Clone[[]bool,bool] -/
noncomputable def slices_Clone_2_T (N : Nat) (t0 : (List Bool)) : Tree (List Bool) :=
  .br t0.isEmpty (
    .any (
      .ret []) (
      .br (ltI ((0 + (t0.length : Int)) * 1) 140737488355328) (
      .ret t0) .fail)) (
    .br (ltI ((0 + (t0.length : Int)) * 1) 140737488355328) (
    .ret t0) .fail)
noncomputable def slices_Clone_2 (N : Nat) (t0 : (List Bool)) : Option (List Bool) := (slices_Clone_2_T N t0).run some
/-! ### bauta/anf.Of -/
noncomputable def anf_Of_l9_T (N : Nat) (t6 : Int) (t34 : Int) (t35 : Int) (r0 : (List Bool)) : Tree ((Int × (List Bool)) ⊕ (List Bool)) :=
  let v1 : Bool := (ltI t35 t34)
  .br v1 (
    let v2 : Int := (IntKind.i64.wrap (((BitVec.ofInt 64 t35) &&& (BitVec.ofInt 64 t6)).toNat : Int))
    let v3 : Bool := (v2 != 0)
    .br v3 (
      .br (inRange t35 r0.length) (
      let v4 : Bool := (r0.getD t35.toNat false)
      let v5 : Int := (IntKind.i64.wrap (t35 - t6))
      .br (inRange v5 r0.length) (
      let v6 : Bool := (r0.getD v5.toNat false)
      let v7 : Bool := (!(v4 == v6))
      .br (inRange t35 r0.length) (
      let v8 : (List Bool) := (r0.set t35.toNat v7)
      let v9 : Int := (IntKind.i64.wrap (t35 + 1))
      .ret (.inl (v9, v8))) .fail) .fail) .fail) (
      let v10 : Int := (IntKind.i64.wrap (t35 + 1))
      .ret (.inl (v10, r0)))) (
    .ret (.inr r0))
noncomputable def anf_Of_l9 (N : Nat) (t6 : Int) (t34 : Int) (v : (Int × (List Bool))) : Option (List Bool) := loopN (fun v => anf_Of_l9_T N t6 t34 v.1 v.2) N v
noncomputable def anf_Of_l6_T (N : Nat) (t4 : Int) (t6 : Int) (r0 : (List Bool)) : Tree ((Int × (List Bool)) ⊕ (List Bool)) :=
  let v1 : Bool := (ltI t6 t4)
  .br v1 (
    let v2 : Int := (r0.length : Int)
    .call (anf_Of_l9 N t6 v2 (0, r0)) fun y3 => (
    let v4 : Int := (IntKind.i64.wrap (t6 * 2))
    .ret (.inl (v4, y3)))) (
    .ret (.inr r0))
noncomputable def anf_Of_l6 (N : Nat) (t4 : Int) (v : (Int × (List Bool))) : Option (List Bool) := loopN (fun v => anf_Of_l6_T N t4 v.1 v.2) N v
noncomputable def anf_Of_l16_T (N : Nat) (t58 : Int) (r1 : (List Bool)) (t59 : Int) (r0 : (List Int)) : Tree ((Int × (List Int)) ⊕ (List Int)) :=
  let v1 : Bool := (ltI t59 t58)
  .br v1 (
    .br (inRange t59 r1.length) (
    let v2 : Bool := (r1.getD t59.toNat false)
    .br v2 (
      let v3 : Int := (IntKind.u64.wrap t59)
      .br (ltI (((r0.length : Int) + 1) * 8) 140737488355328) (
      let v4 : (List Int) := (r0 ++ [v3])
      let v5 : Int := (IntKind.i64.wrap (t59 + 1))
      .ret (.inl (v5, v4))) .fail) (
      let v6 : Int := (IntKind.i64.wrap (t59 + 1))
      .ret (.inl (v6, r0)))) .fail) (
    .ret (.inr r0))
noncomputable def anf_Of_l16 (N : Nat) (t58 : Int) (r1 : (List Bool)) (v : (Int × (List Int))) : Option (List Int) := loopN (fun v => anf_Of_l16_T N t58 r1 v.1 v.2) N v
noncomputable def anf_Of_j4_T (N : Nat) (t0 : (List Bool)) (t4 : Int) : Tree (List Int) :=
  .call (slices_Clone_2 N t0) fun y1 => (
  .call (anf_Of_l6 N t4 (1, y1)) fun y2 => (
  let v3 : Int := (y2.length : Int)
  .call (anf_Of_l16 N v3 y2 (0, [])) fun y4 => (
  .ret y4)))
noncomputable def anf_Of_j4 (N : Nat) (t0 : (List Bool)) (t4 : Int) : Option (List Int) := (anf_Of_j4_T N t0 t4).run some
noncomputable def anf_Of_T (N : Nat) (t0 : (List Bool)) : Tree (Int × (List Int)) :=
  let v1 : Int := (t0.length : Int)
  let v2 : Bool := (ltI v1 1)
  .br v2 (
    .ret (1, [])) (
    let v3 : Bool := (ltI 4096 v1)
    .br v3 (
      .ret (1, [])) (
      let v4 : Int := (IntKind.i64.wrap (v1 - 1))
      let v5 : Int := (IntKind.i64.wrap (((BitVec.ofInt 64 v1) &&& (BitVec.ofInt 64 v4)).toNat : Int))
      let v6 : Bool := (v5 != 0)
      .br v6 (
        .ret (1, [])) (
        .call (anf_Of_j4 N t0 v1) fun y7 => (
        .ret (0, y7)))))
noncomputable def anf_Of (N : Nat) (t0 : (List Bool)) : Option (Int × (List Int)) := (anf_Of_T N t0).run some
/-! ### bauta/bautaref34.Of -/
noncomputable def bautaref34_Of_l3_T (N : Nat) (t0 : (List Bool)) (t4 : Int) (t5 : Bool) (t6 : Int) : Tree ((Int × Bool × Int) ⊕ Bool) :=
  let v1 : Bool := (ltI t6 13)
  .br v1 (
    .br t5 (
      let v2 : Int := (IntKind.i64.wrap (t4 * 2))
      let v3 : Int := (IntKind.i64.wrap (t6 + 1))
      .ret (.inl (v2, true, v3))) (
      let v4 : Int := (t0.length : Int)
      let v5 : Bool := (t4 == v4)
      let v6 : Int := (IntKind.i64.wrap (t4 * 2))
      let v7 : Int := (IntKind.i64.wrap (t6 + 1))
      .ret (.inl (v6, v5, v7)))) (
    .ret (.inr t5))
noncomputable def bautaref34_Of_l3 (N : Nat) (t0 : (List Bool)) (v : (Int × Bool × Int)) : Option Bool := loopN (fun v => bautaref34_Of_l3_T N t0 v.1 v.2.1 v.2.2) N v
noncomputable def bautaref34_Of_l15_T (N : Nat) (t0 : (List Bool)) (t8 : Int) (t9 : Bool) (t10 : Int) : Tree ((Bool × Int) ⊕ Bool) :=
  let v1 : Bool := (leI t10 t8)
  .br v1 (
    let v2 : Int := (IntKind.i64.wrap (((BitVec.ofInt 64 t10) ||| (BitVec.ofInt 64 t8)).toNat : Int))
    let v3 : Bool := (v2 == t8)
    .br v3 (
      .br (inRange t10 t0.length) (
      let v4 : Bool := (t0.getD t10.toNat false)
      .br v4 (
        let v5 : Bool := (!t9)
        let v6 : Int := (IntKind.i64.wrap (t10 + 1))
        .ret (.inl (v5, v6))) (
        let v7 : Int := (IntKind.i64.wrap (t10 + 1))
        .ret (.inl (t9, v7)))) .fail) (
      let v8 : Int := (IntKind.i64.wrap (t10 + 1))
      .ret (.inl (t9, v8)))) (
    .ret (.inr t9))
noncomputable def bautaref34_Of_l15 (N : Nat) (t0 : (List Bool)) (t8 : Int) (v : (Bool × Int)) : Option Bool := loopN (fun v => bautaref34_Of_l15_T N t0 t8 v.1 v.2) N v
noncomputable def bautaref34_Of_l11_T (N : Nat) (t0 : (List Bool)) (t8 : Int) (r0 : (List Int)) : Tree ((Int × (List Int)) ⊕ (List Int)) :=
  let v1 : Int := (t0.length : Int)
  let v2 : Bool := (ltI t8 v1)
  .br v2 (
    .call (bautaref34_Of_l15 N t0 t8 (false, 0)) fun y3 => (
    .br y3 (
      let v4 : Int := (IntKind.u64.wrap t8)
      .br (ltI (((r0.length : Int) + 1) * 8) 140737488355328) (
      let v5 : (List Int) := (r0 ++ [v4])
      let v6 : Int := (IntKind.i64.wrap (t8 + 1))
      .ret (.inl (v6, v5))) .fail) (
      let v7 : Int := (IntKind.i64.wrap (t8 + 1))
      .ret (.inl (v7, r0))))) (
    .ret (.inr r0))
noncomputable def bautaref34_Of_l11 (N : Nat) (t0 : (List Bool)) (v : (Int × (List Int))) : Option (List Int) := loopN (fun v => bautaref34_Of_l11_T N t0 v.1 v.2) N v
noncomputable def bautaref34_Of_T (N : Nat) (t0 : (List Bool)) : Tree (Int × (List Int)) :=
  .call (bautaref34_Of_l3 N t0 (1, false, 0)) fun y1 => (
  let v2 : Bool := (!y1)
  .br v2 (
    .ret (1, [])) (
    .call (bautaref34_Of_l11 N t0 (0, [])) fun y3 => (
    .ret (0, y3))))
noncomputable def bautaref34_Of (N : Nat) (t0 : (List Bool)) : Option (Int × (List Int)) := (bautaref34_Of_T N t0).run some
/-! ### bauta/bautalaw34.AnfTables -/
noncomputable def bautalaw34_AnfTables_j12_T (N : Nat) (t0 : (List Bool)) (t7 : Int) (r0 : (List Int)) : Tree (Unit ⊕ Int) :=
  let v1 : Int := (IntKind.u64.wrap t7)
  .call (anf_Eval N r0 v1) fun y2 => (
  .br (inRange t7 t0.length) (
  let v3 : Bool := (t0.getD t7.toNat false)
  let v4 : Bool := (!(y2 == v3))
  .br v4 (
    .ret (.inl ())) (
    let v5 : Int := (IntKind.i64.wrap (t7 + 1))
    .ret (.inr v5))) .fail)
noncomputable def bautalaw34_AnfTables_j12 (N : Nat) (t0 : (List Bool)) (t7 : Int) (r0 : (List Int)) : Option (Unit ⊕ Int) := (bautalaw34_AnfTables_j12_T N t0 t7 r0).run some
noncomputable def bautalaw34_AnfTables_l10_T (N : Nat) (t0 : (List Bool)) (t4 : Int) (r0 : (List Int)) (t7 : Int) : Tree (Int ⊕ (Unit ⊕ Unit)) :=
  let v1 : Int := (t0.length : Int)
  let v2 : Bool := (ltI t7 v1)
  .br v2 (
    let v3 : Bool := (t4 == 0)
    .br v3 (
      .call (bautalaw34_AnfTables_j12 N t0 t7 r0) fun y4 => (
      .alt y4 (fun y5 => (
        .ret (.inr (.inl ())))) (fun y6 => (
        .ret (.inl y6))))) (
      .ret (.inr (.inr ())))) (
    .ret (.inr (.inr ())))
noncomputable def bautalaw34_AnfTables_l10 (N : Nat) (t0 : (List Bool)) (t4 : Int) (r0 : (List Int)) (v : Int) : Option (Unit ⊕ Unit) := loopN (fun v => bautalaw34_AnfTables_l10_T N t0 t4 r0 v) N v
noncomputable def bautalaw34_AnfTables_j9_T (N : Nat) (t0 : (List Bool)) (t4 : Int) (r0 : (List Int)) : Tree Bool :=
  .call (bautalaw34_AnfTables_l10 N t0 t4 r0 0) fun y1 => (
  .alt y1 (fun y2 => (
    .ret false)) (fun y3 => (
    .call (bautalaw34_lives N) fun y4 => (
    .ret y4))))
noncomputable def bautalaw34_AnfTables_j9 (N : Nat) (t0 : (List Bool)) (t4 : Int) (r0 : (List Int)) : Option Bool := (bautalaw34_AnfTables_j9_T N t0 t4 r0).run some
noncomputable def bautalaw34_AnfTables_j3_T (N : Nat) (t0 : (List Bool)) : Tree Bool :=
  .br (ltI ((0 + (t0.length : Int)) * 1) 140737488355328) (
  .call (anf_Of N t0) fun y1 => (
  let v2 : Int := (t0.length : Int)
  let v3 : Bool := (ltI 4096 v2)
  .br v3 (
    let v4 : Bool := (y1.1 == 1)
    .br v4 (
      let v5 : Int := (y1.2.length : Int)
      let v6 : Bool := (v5 == 0)
      .br v6 (
        .call (bautalaw34_lives N) fun y7 => (
        .ret y7)) (
        .ret false)) (
      .ret false)) (
    .call (bautaref34_Of N t0) fun y8 => (
    .call (bautaref34_Same N y1.2 y8.2) fun y9 => (
    let v10 : Bool := (!y9)
    .br v10 (
      .ret false) (
      let v11 : Bool := (y1.1 != y8.1)
      .br v11 (
        .ret false) (
        .call (bautalaw34_AnfTables_j9 N t0 y1.1 y1.2) fun y12 => (
        .ret y12)))))))) .fail
noncomputable def bautalaw34_AnfTables_j3 (N : Nat) (t0 : (List Bool)) : Option Bool := (bautalaw34_AnfTables_j3_T N t0).run some
noncomputable def bautalaw34_AnfTables_T (N : Nat) (t0 : (List Bool)) : Tree Bool :=
  let v1 : Int := (t0.length : Int)
  let v2 : Bool := (ltI 256 v1)
  .br v2 (
    let v3 : Int := (t0.length : Int)
    let v4 : Bool := (leI v3 4096)
    .br v4 (
      .call (bautalaw34_lives N) fun y5 => (
      .ret y5)) (
      .call (bautalaw34_AnfTables_j3 N t0) fun y6 => (
      .ret y6))) (
    .call (bautalaw34_AnfTables_j3 N t0) fun y7 => (
    .ret y7))
noncomputable def bautalaw34_AnfTables (N : Nat) (t0 : (List Bool)) : Option Bool := (bautalaw34_AnfTables_T N t0).run some
/-! ### bauta/bautaref34.Mul -/
noncomputable def bautaref34_Mul_l9_T (N : Nat) (t7 : Int) (r0 : (List Int)) (r1 : (List Int)) (t8 : Int) (r2 : (List Int)) : Tree ((Int × (List Int)) ⊕ (List Int)) :=
  let v1 : Int := (r1.length : Int)
  let v2 : Bool := (ltI t8 v1)
  .br v2 (
    .br (inRange t7 r0.length) (
    let v3 : Int := (r0.getD t7.toNat 0)
    .br (inRange t8 r1.length) (
    let v4 : Int := (r1.getD t8.toNat 0)
    let v5 : Int := (IntKind.u64.wrap (((BitVec.ofInt 64 v3) ||| (BitVec.ofInt 64 v4)).toNat : Int))
    .call (bautaref34_put N r2 v5) fun y6 => (
    let v7 : Int := (IntKind.i64.wrap (t8 + 1))
    .ret (.inl (v7, y6)))) .fail) .fail) (
    .ret (.inr r2))
noncomputable def bautaref34_Mul_l9 (N : Nat) (t7 : Int) (r0 : (List Int)) (r1 : (List Int)) (v : (Int × (List Int))) : Option (List Int) := loopN (fun v => bautaref34_Mul_l9_T N t7 r0 r1 v.1 v.2) N v
noncomputable def bautaref34_Mul_l6_T (N : Nat) (r0 : (List Int)) (r1 : (List Int)) (t7 : Int) (r2 : (List Int)) : Tree ((Int × (List Int)) ⊕ (List Int)) :=
  let v1 : Int := (r0.length : Int)
  let v2 : Bool := (ltI t7 v1)
  .br v2 (
    .call (bautaref34_Mul_l9 N t7 r0 r1 (0, r2)) fun y3 => (
    let v4 : Int := (IntKind.i64.wrap (t7 + 1))
    .ret (.inl (v4, y3)))) (
    .ret (.inr r2))
noncomputable def bautaref34_Mul_l6 (N : Nat) (r0 : (List Int)) (r1 : (List Int)) (v : (Int × (List Int))) : Option (List Int) := loopN (fun v => bautaref34_Mul_l6_T N r0 r1 v.1 v.2) N v
noncomputable def bautaref34_Mul_T (N : Nat) (t0 : (List Int)) (t1 : (List Int)) : Tree (Int × (List Int)) :=
  .call (bautaref34_Make N t0) fun y1 => (
  .call (bautaref34_Make N t1) fun y2 => (
  let v3 : Int := (y1.length : Int)
  let v4 : Int := (y2.length : Int)
  let v5 : Int := (IntKind.i64.wrap (v3 * v4))
  let v6 : Bool := (ltI 65536 v5)
  .br v6 (
    .ret (150, [])) (
    .call (bautaref34_Mul_l6 N y1 y2 (0, [])) fun y7 => (
    let v8 : Int := (y7.length : Int)
    let v9 : Bool := (ltI 4096 v8)
    .br v9 (
      .ret (150, [])) (
      .ret (0, y7))))))
noncomputable def bautaref34_Mul (N : Nat) (t0 : (List Int)) (t1 : (List Int)) : Option (Int × (List Int)) := (bautaref34_Mul_T N t0 t1).run some
/-! ### bauta/bautaref34.Add -/
noncomputable def bautaref34_Add_T (N : Nat) (t0 : (List Int)) (t1 : (List Int)) : Tree (List Int) :=
  .br (ltI ((0 + (t0.length : Int)) * 8) 140737488355328) (
  .br (ltI (((t0.length : Int) + (t1.length : Int)) * 8) 140737488355328) (
  let v1 : (List Int) := (t0 ++ t1)
  .call (bautaref34_Make N v1) fun y2 => (
  .ret y2)) .fail) .fail
noncomputable def bautaref34_Add (N : Nat) (t0 : (List Int)) (t1 : (List Int)) : Option (List Int) := (bautaref34_Add_T N t0 t1).run some
/-! ### math/bits.OnesCount64 -/
noncomputable def bits_OnesCount64_T (N : Nat) (t0 : Int) : Tree Int :=
  let v1 : Int := (t0.fdiv (2 ^ 1))
  let v2 : Int := (IntKind.u64.wrap (((BitVec.ofInt 64 v1) &&& (BitVec.ofInt 64 6148914691236517205)).toNat : Int))
  let v3 : Int := (IntKind.u64.wrap (((BitVec.ofInt 64 t0) &&& (BitVec.ofInt 64 6148914691236517205)).toNat : Int))
  let v4 : Int := (IntKind.u64.wrap (v2 + v3))
  let v5 : Int := (v4.fdiv (2 ^ 2))
  let v6 : Int := (IntKind.u64.wrap (((BitVec.ofInt 64 v5) &&& (BitVec.ofInt 64 3689348814741910323)).toNat : Int))
  let v7 : Int := (IntKind.u64.wrap (((BitVec.ofInt 64 v4) &&& (BitVec.ofInt 64 3689348814741910323)).toNat : Int))
  let v8 : Int := (IntKind.u64.wrap (v6 + v7))
  let v9 : Int := (v8.fdiv (2 ^ 4))
  let v10 : Int := (IntKind.u64.wrap (v9 + v8))
  let v11 : Int := (IntKind.u64.wrap (((BitVec.ofInt 64 v10) &&& (BitVec.ofInt 64 1085102592571150095)).toNat : Int))
  let v12 : Int := (v11.fdiv (2 ^ 8))
  let v13 : Int := (IntKind.u64.wrap (v11 + v12))
  let v14 : Int := (v13.fdiv (2 ^ 16))
  let v15 : Int := (IntKind.u64.wrap (v13 + v14))
  let v16 : Int := (v15.fdiv (2 ^ 32))
  let v17 : Int := (IntKind.u64.wrap (v15 + v16))
  let v18 : Int := (IntKind.i64.wrap v17)
  let v19 : Int := (IntKind.i64.wrap (((BitVec.ofInt 64 v18) &&& (BitVec.ofInt 64 127)).toNat : Int))
  .ret v19
noncomputable def bits_OnesCount64 (N : Nat) (t0 : Int) : Option Int := (bits_OnesCount64_T N t0).run some
/-! ### bauta/anf.Degree -/
noncomputable def anf_Degree_l3_T (N : Nat) (t7 : (List Int)) (t8 : Int) (t3 : Int) (t9 : Int) : Tree ((Int × Int) ⊕ Int) :=
  let v1 : Bool := (ltI t9 t8)
  .br v1 (
    .br (inRange t9 t7.length) (
    let v2 : Int := (t7.getD t9.toNat 0)
    .call (bits_OnesCount64 N v2) fun y3 => (
    let v4 : Int := (if y3 > t3 then y3 else t3)
    let v5 : Int := (IntKind.i64.wrap (t9 + 1))
    .ret (.inl (v4, v5)))) .fail) (
    .ret (.inr t3))
noncomputable def anf_Degree_l3 (N : Nat) (t7 : (List Int)) (t8 : Int) (v : (Int × Int)) : Option Int := loopN (fun v => anf_Degree_l3_T N t7 t8 v.1 v.2) N v
noncomputable def anf_Degree_l3b_T (N : Nat) (t7a : Nat) (t7b : Nat) (t8 : Int) (r0 : (List Int)) (t3 : Int) (t9 : Int) : Tree ((Int × Int) ⊕ Int) :=
  let v1 : Bool := (ltI t9 t8)
  .br v1 (
    .br (inRange t9 t7b) (
    let v2 : Int := (r0.getD (t7a + t9.toNat) 0)
    .call (bits_OnesCount64 N v2) fun y3 => (
    let v4 : Int := (if y3 > t3 then y3 else t3)
    let v5 : Int := (IntKind.i64.wrap (t9 + 1))
    .ret (.inl (v4, v5)))) .fail) (
    .ret (.inr t3))
noncomputable def anf_Degree_l3b (N : Nat) (t7a : Nat) (t7b : Nat) (t8 : Int) (r0 : (List Int)) (v : (Int × Int)) : Option Int := loopN (fun v => anf_Degree_l3b_T N t7a t7b t8 r0 v.1 v.2) N v
noncomputable def anf_Degree_T (N : Nat) (t0 : (List Int)) : Tree Int :=
  .call (anf_poly N t0) fun y1 => (
  .alt y1 (fun y2 => (
    let v4 : Int := (t0.length : Int)
    .call (anf_Degree_l3 N t0 v4 ((-1), 0)) fun y5 => (
    .ret y5))) (fun y3 => (
    let v6 : Int := (y3.1 : Int)
    .call (anf_Degree_l3b N 0 y3.1 v6 y3.2 ((-1), 0)) fun y7 => (
    .ret y7))))
noncomputable def anf_Degree (N : Nat) (t0 : (List Int)) : Option Int := (anf_Degree_T N t0).run some
/-! ### bauta/bautaref34.Degree -/
noncomputable def bautaref34_Degree_l7_T (N : Nat) (t5 : Int) (r0 : (List Int)) (t6 : Int) (t7 : Int) : Tree ((Int × Int) ⊕ Int) :=
  let v1 : Bool := (ltI t7 64)
  .br v1 (
    .br (inRange t5 r0.length) (
    let v2 : Int := (r0.getD t5.toNat 0)
    .call (bautaref34_bit N v2 t7) fun y3 => (
    .br y3 (
      let v4 : Int := (IntKind.i64.wrap (t6 + 1))
      let v5 : Int := (IntKind.i64.wrap (t7 + 1))
      .ret (.inl (v4, v5))) (
      let v6 : Int := (IntKind.i64.wrap (t7 + 1))
      .ret (.inl (t6, v6))))) .fail) (
    .ret (.inr t6))
noncomputable def bautaref34_Degree_l7 (N : Nat) (t5 : Int) (r0 : (List Int)) (v : (Int × Int)) : Option Int := loopN (fun v => bautaref34_Degree_l7_T N t5 r0 v.1 v.2) N v
noncomputable def bautaref34_Degree_l3_T (N : Nat) (r0 : (List Int)) (t3 : Int) (t5 : Int) : Tree ((Int × Int) ⊕ Int) :=
  let v1 : Int := (r0.length : Int)
  let v2 : Bool := (ltI t5 v1)
  .br v2 (
    .call (bautaref34_Degree_l7 N t5 r0 (0, 0)) fun y3 => (
    let v4 : Bool := (ltI t3 y3)
    .br v4 (
      let v5 : Int := (IntKind.i64.wrap (t5 + 1))
      .ret (.inl (y3, v5))) (
      let v6 : Int := (IntKind.i64.wrap (t5 + 1))
      .ret (.inl (t3, v6))))) (
    .ret (.inr t3))
noncomputable def bautaref34_Degree_l3 (N : Nat) (r0 : (List Int)) (v : (Int × Int)) : Option Int := loopN (fun v => bautaref34_Degree_l3_T N r0 v.1 v.2) N v
noncomputable def bautaref34_Degree_T (N : Nat) (t0 : (List Int)) : Tree Int :=
  .call (bautaref34_Make N t0) fun y1 => (
  .call (bautaref34_Degree_l3 N y1 ((-1), 0)) fun y2 => (
  .ret y2))
noncomputable def bautaref34_Degree (N : Nat) (t0 : (List Int)) : Option Int := (bautaref34_Degree_T N t0).run some
/-! ### bauta/anf.Vars -/
noncomputable def anf_Vars_l3_T (N : Nat) (t7 : (List Int)) (t8 : Int) (t3 : Int) (t9 : Int) : Tree ((Int × Int) ⊕ Int) :=
  let v1 : Bool := (ltI t9 t8)
  .br v1 (
    .br (inRange t9 t7.length) (
    let v2 : Int := (t7.getD t9.toNat 0)
    let v3 : Int := (IntKind.u64.wrap (((BitVec.ofInt 64 t3) ||| (BitVec.ofInt 64 v2)).toNat : Int))
    let v4 : Int := (IntKind.i64.wrap (t9 + 1))
    .ret (.inl (v3, v4))) .fail) (
    .ret (.inr t3))
noncomputable def anf_Vars_l3 (N : Nat) (t7 : (List Int)) (t8 : Int) (v : (Int × Int)) : Option Int := loopN (fun v => anf_Vars_l3_T N t7 t8 v.1 v.2) N v
noncomputable def anf_Vars_l3b_T (N : Nat) (t7a : Nat) (t7b : Nat) (t8 : Int) (r0 : (List Int)) (t3 : Int) (t9 : Int) : Tree ((Int × Int) ⊕ Int) :=
  let v1 : Bool := (ltI t9 t8)
  .br v1 (
    .br (inRange t9 t7b) (
    let v2 : Int := (r0.getD (t7a + t9.toNat) 0)
    let v3 : Int := (IntKind.u64.wrap (((BitVec.ofInt 64 t3) ||| (BitVec.ofInt 64 v2)).toNat : Int))
    let v4 : Int := (IntKind.i64.wrap (t9 + 1))
    .ret (.inl (v3, v4))) .fail) (
    .ret (.inr t3))
noncomputable def anf_Vars_l3b (N : Nat) (t7a : Nat) (t7b : Nat) (t8 : Int) (r0 : (List Int)) (v : (Int × Int)) : Option Int := loopN (fun v => anf_Vars_l3b_T N t7a t7b t8 r0 v.1 v.2) N v
noncomputable def anf_Vars_T (N : Nat) (t0 : (List Int)) : Tree Int :=
  .call (anf_poly N t0) fun y1 => (
  .alt y1 (fun y2 => (
    let v4 : Int := (t0.length : Int)
    .call (anf_Vars_l3 N t0 v4 (0, 0)) fun y5 => (
    .ret y5))) (fun y3 => (
    let v6 : Int := (y3.1 : Int)
    .call (anf_Vars_l3b N 0 y3.1 v6 y3.2 (0, 0)) fun y7 => (
    .ret y7))))
noncomputable def anf_Vars (N : Nat) (t0 : (List Int)) : Option Int := (anf_Vars_T N t0).run some
/-! ### bauta/bautaref34.Vars -/
noncomputable def bautaref34_Vars_l3_T (N : Nat) (r0 : (List Int)) (t3 : Int) (t5 : Int) : Tree ((Int × Int) ⊕ Int) :=
  let v1 : Int := (r0.length : Int)
  let v2 : Bool := (ltI t5 v1)
  .br v2 (
    .br (inRange t5 r0.length) (
    let v3 : Int := (r0.getD t5.toNat 0)
    let v4 : Int := (IntKind.u64.wrap (((BitVec.ofInt 64 t3) ||| (BitVec.ofInt 64 v3)).toNat : Int))
    let v5 : Int := (IntKind.i64.wrap (t5 + 1))
    .ret (.inl (v4, v5))) .fail) (
    .ret (.inr t3))
noncomputable def bautaref34_Vars_l3 (N : Nat) (r0 : (List Int)) (v : (Int × Int)) : Option Int := loopN (fun v => bautaref34_Vars_l3_T N r0 v.1 v.2) N v
noncomputable def bautaref34_Vars_T (N : Nat) (t0 : (List Int)) : Tree Int :=
  .call (bautaref34_Make N t0) fun y1 => (
  .call (bautaref34_Vars_l3 N y1 (0, 0)) fun y2 => (
  .ret y2))
noncomputable def bautaref34_Vars (N : Nat) (t0 : (List Int)) : Option Int := (bautaref34_Vars_T N t0).run some
/-! ### bauta/bautalaw34.AnfReckons -/
noncomputable def bautalaw34_AnfReckons_T (N : Nat) (t0 : (List Int)) (t1 : (List Int)) : Tree Bool :=
  .call (bautalaw34_short N t0) fun y1 => (
  .call (bautalaw34_short N t1) fun y2 => (
  .call (bautalaw34_short N y1) fun y3 => (
  .call (bautalaw34_short N y2) fun y4 => (
  .call (anf_Mul N y3 y4) fun y5 => (
  .alt y5 (fun y6 => (
    .call (bautaref34_Mul N y1 y2) fun y8 => (
    .call (bautalaw34_short N y1) fun y9 => (
    .call (bautalaw34_short N y2) fun y10 => (
    .call (anf_Add N y9 y10) fun y11 => (
    .call (bautaref34_Add N y1 y2) fun y12 => (
    .call (bautaref34_Same N y11 y12) fun y13 => (
    .br y13 (
      .call (bautaref34_Same N [] y8.2) fun y14 => (
      .br y14 (
        let v15 : Bool := (150 == y8.1)
        .br v15 (
          .call (bautalaw34_short N y1) fun y16 => (
          .call (anf_Degree N y16) fun y17 => (
          .call (bautaref34_Degree N y1) fun y18 => (
          let v19 : Bool := (y17 == y18)
          .br v19 (
            .call (bautalaw34_short N y1) fun y20 => (
            .call (anf_Vars N y20) fun y21 => (
            .call (bautaref34_Vars N y1) fun y22 => (
            let v23 : Bool := (y21 == y22)
            .br v23 (
              .call (bautalaw34_lives N) fun y24 => (
              .ret y24)) (
              .ret false))))) (
            .ret false))))) (
          .ret false)) (
        .ret false))) (
      .ret false))))))))) (fun y7 => (
    .call (bautaref34_Mul N y1 y2) fun y25 => (
    .call (bautalaw34_short N y1) fun y26 => (
    .call (bautalaw34_short N y2) fun y27 => (
    .call (anf_Add N y26 y27) fun y28 => (
    .call (bautaref34_Add N y1 y2) fun y29 => (
    .call (bautaref34_Same N y28 y29) fun y30 => (
    .br y30 (
      .call (bautaref34_Same N ((y7.2.drop 0).take y7.1) y25.2) fun y31 => (
      .br y31 (
        let v32 : Bool := (0 == y25.1)
        .br v32 (
          .call (bautalaw34_short N y1) fun y33 => (
          .call (anf_Degree N y33) fun y34 => (
          .call (bautaref34_Degree N y1) fun y35 => (
          let v36 : Bool := (y34 == y35)
          .br v36 (
            .call (bautalaw34_short N y1) fun y37 => (
            .call (anf_Vars N y37) fun y38 => (
            .call (bautaref34_Vars N y1) fun y39 => (
            let v40 : Bool := (y38 == y39)
            .br v40 (
              .call (bautalaw34_lives N) fun y41 => (
              .ret y41)) (
              .ret false))))) (
            .ret false))))) (
          .ret false)) (
        .ret false))) (
      .ret false))))))))))))))
noncomputable def bautalaw34_AnfReckons (N : Nat) (t0 : (List Int)) (t1 : (List Int)) : Option Bool := (bautalaw34_AnfReckons_T N t0 t1).run some
end Go.Proofs.YtkcimijkcmoonaaDoorV
