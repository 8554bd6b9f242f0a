/- A small interpreter over abstract values: what a loaded function does, told of lists and numbers. Definitions alone. -/
import Derived.Orders
import Derived.Test.YtfogafinohfpfaaGreatDoorV1
import Derived.Laws.MakeOwn
import Derived.Laws.OwnMore
namespace Go.Proofs.YtfogafinohfpfaaGreatDoorV

/-! ### Comparing, so that the kernel need not count -/
def leI (a b : Int) : Bool := match a, b with
  | .ofNat a, .ofNat b => Nat.ble a b
  | .ofNat _, .negSucc _ => false
  | .negSucc _, .ofNat _ => true
  | .negSucc a, .negSucc b => Nat.ble b a

def ltI (a b : Int) : Bool := match a, b with
  | .ofNat a, .ofNat b => Nat.blt a b
  | .ofNat _, .negSucc _ => false
  | .negSucc _, .ofNat _ => true
  | .negSucc a, .negSucc b => Nat.blt b a

theorem leI_eq (a b : Int) : leI a b = decide (a ≤ b) := by
  unfold leI
  cases a <;> cases b <;> (rw [Bool.eq_iff_iff]; simp [Nat.ble_eq] <;> omega)

theorem ltI_eq (a b : Int) : ltI a b = decide (a < b) := by
  unfold ltI
  cases a <;> cases b <;> (rw [Bool.eq_iff_iff]; simp [Nat.blt, Nat.ble_eq] <;> omega)

/-! ### Types and what they hold -/
/-- A tree: two numbers that are int's, one that is uint32's, a text, parts, texts. -/
inductive Node where
  | mk (k : Int) (s : ByteArray) (n a : Int) (l : List Node) (p : List ByteArray)
def Node.k : Node → Int | .mk k _ _ _ _ _ => k
def Node.s : Node → ByteArray | .mk _ s _ _ _ _ => s
def Node.n : Node → Int | .mk _ _ n _ _ _ => n
def Node.a : Node → Int | .mk _ _ _ a _ _ => a
def Node.l : Node → List Node | .mk _ _ _ _ l _ => l
def Node.p : Node → List ByteArray | .mk _ _ _ _ _ p => p

inductive Ty where
  | int (k : IntKind)
  | bool
  | str
  | list (t : Ty)
  | prod (a b : Ty)
  | node
  deriving DecidableEq

@[reducible] def El : Ty → Type
  | .int _ => Int
  | .bool => Bool
  | .str => ByteArray
  | .list t => List (El t)
  | .prod a b => El a × El b
  | .node => Node

def dfl : (t : Ty) → El t
  | .int _ => (0 : Int)
  | .bool => false
  | .str => ByteArray.empty
  | .list _ => []
  | .prod a b => (dfl a, dfl b)
  | .node => .mk 0 ByteArray.empty 0 0 [] []

/-- How many cells it takes. -/
def csz : Ty → Nat
  | .prod a b => csz a + csz b
  | .node => 6
  | _ => 1

/-- No list inside. -/
def Ty.flat : Ty → Bool
  | .list _ => false
  | .prod a b => a.flat && b.flat
  | .node => false
  | _ => true

/-! ### Abstract values -/
/-- What a name stands for, if it is no cells': what a range gives its function, a map, what goes through a string. -/
inductive RK where
  | yield
  | map
  | iter
  /-- nil, or the row's beginning -/
  | opt
  /-- where a slice's elements lie -/
  | data
  /-- the whole of a row; nil where it lies nowhere -/
  | buf
  deriving DecidableEq

inductive AV where
  | dead
  | int (k : IntKind) (n : Int)
  | bool (b : Bool)
  | str (s : ByteArray)
  | agg (l : List AV)
  | tup (l : List AV)
  | nilp
  /-- a pointer into the row r: element i (of sz cells), cell j -/
  | ptr (r i sz j : Nat)
  /-- a pointer to cells that stay as they are -/
  | icell (l : List AV)
  /-- nil, of a slice type whose elements are of type e -/
  | nils (e : TypeId)
  /-- the whole of row r -/
  | own (r sz : Nat)
  /-- a part of row r -/
  | sl (r sz off len : Nat)
  /-- a slice that stays as it is -/
  | imm (t : Ty) (xs : List (El t))
  | nili
  | iface (t : TypeId) (v : AV)
  | nilf
  | fn (f : FuncId) (cap : List AV)
  | nilm
  /-- the object of row r -/
  | oref (k : RK) (r : Nat)

/-- The cells of a value. -/
def enc : (t : Ty) → El t → List AV
  | .int k, n => [.int k n]
  | .bool, b => [.bool b]
  | .str, s => [.str s]
  | .list t, xs => [.imm t xs]
  | .prod a b, p => enc a p.1 ++ enc b p.2
  | .node, x => [.int .i64 (Node.k x), .str (Node.s x), .int .u32 (Node.n x), .int .i64 (Node.a x), .imm .node (Node.l x), .imm .str (Node.p x)]

/-- A value of a type, as the interpreter has it. -/
def av1 : (t : Ty) → El t → AV
  | .int k, n => .int k n
  | .bool, b => .bool b
  | .str, s => .str s
  | .list t, xs => .imm t xs
  | .prod a b, p => .agg (enc (.prod a b) p)
  | .node, x => .agg (enc .node x)

/-- A slice's elements, where they stay as they are. -/
def decV (t : Ty) : AV → Option (List (El t))
  | .imm t' xs => if h : t' = t then some (h ▸ xs) else none
  | .nils _ => some []
  | _ => none

def decVN : AV → Option (List Node)
  | .imm .node xs => some xs
  | .nils _ => some []
  | _ => none
def decVS : AV → Option (List ByteArray)
  | .imm .str xs => some xs
  | .nils _ => some []
  | _ => none

def decN : List AV → Option (Node × List AV)
  | .int .i64 k :: .str s :: .int .u32 n :: .int .i64 a :: x :: y :: r => match decVN x, decVS y with
    | some l, some p => some (.mk k s n a l p, r)
    | _, _ => none
  | _ => none

/-- Cells read as a value; what is left of them. -/
def dec : (t : Ty) → List AV → Option (El t × List AV)
  | .int k, .int k' n :: r => if k = k' then some (n, r) else none
  | .bool, .bool b :: r => some (b, r)
  | .str, .str s :: r => some (s, r)
  | .list t, .imm t' xs :: r => if h : t' = t then some (h ▸ xs, r) else none
  | .list _, .nils _ :: r => some ([], r)
  | .node, l => decN l
  | .prod a b, l => match dec a l with
    | some (x, r) => match dec b r with
      | some (y, r') => some ((x, y), r')
      | none => none
    | none => none
  | _, _ => none

def AV.isAtom : AV → Bool
  | .dead | .agg _ | .tup _ => false
  | _ => true

mutual
/-- The rows that a value names. -/
def AV.refs : AV → List Nat
  | .ptr r _ _ _ => [r]
  | .own r _ => [r]
  | .sl r _ _ _ => [r]
  | .oref _ r => [r]
  | .agg l => AV.refsL l
  | .tup l => AV.refsL l
  | .fn _ l => AV.refsL l
  | .iface _ v => AV.refs v
  | _ => []
def AV.refsL : List AV → List Nat
  | [] => []
  | x :: l => AV.refs x ++ AV.refsL l
end

mutual
def AV.ren (f : Nat → Option Nat) : AV → AV
  | .ptr r i sz j => match f r with | some q => .ptr q i sz j | none => .dead
  | .own r sz => match f r with | some q => .own q sz | none => .dead
  | .sl r sz off len => match f r with | some q => .sl q sz off len | none => .dead
  | .oref k r => match f r with | some q => .oref k q | none => .dead
  | .agg l => .agg (AV.renL f l)
  | .tup l => .tup (AV.renL f l)
  | .fn g l => .fn g (AV.renL f l)
  | .iface t v => .iface t (AV.ren f v)
  | .dead => .dead
  | .int k n => .int k n
  | .bool b => .bool b
  | .str s => .str s
  | .nilp => .nilp
  | .icell l => .icell l
  | .nils e => .nils e
  | .imm t xs => .imm t xs
  | .nili => .nili
  | .nilf => .nilf
  | .nilm => .nilm
def AV.renL (f : Nat → Option Nat) : List AV → List AV
  | [] => []
  | x :: l => AV.ren f x :: AV.renL f l
end

mutual
/-- Nothing in it lies in memory that stays as it is. -/
def AV.noImm : AV → Bool
  | .icell _ => false
  | .imm _ _ => false
  | .agg l => AV.noImmL l
  | .tup l => AV.noImmL l
  | .fn _ l => AV.noImmL l
  | .iface _ v => AV.noImm v
  | _ => true
def AV.noImmL : List AV → Bool
  | [] => true
  | x :: l => AV.noImm x && AV.noImmL l
end

/-! ### Rows and states -/
inductive RC where
  | cells (l : List AV)
  | list (t : Ty) (xs : List (El t))
  /-- a range over a function: which one; 0: ready, 1: in a round, 2: left by ret, 3 + id: by an exit; the temporaries -/
  | loop (id st : Nat) (l : List AV)
  | map (k v : Ty) (xs : List (El k × El v))
  /-- what goes through a string -/
  | siter (s : ByteArray) (pos : Nat)

/-- No cells. -/
def RC.isObj : RC → Bool
  | .cells _ => false
  | .list _ _ => false
  | _ => true

def RC.flat : RC → List AV
  | .cells l => l
  | .list t xs => xs.flatMap (enc t)
  | _ => []

structure Row where
  e : TypeId
  sz : Nat
  c : RC

abbrev Rows := List (Nat × Row)

structure St where
  t : List AV
  m : Rows
  nx : Nat

def look : Rows → Nat → Option Row
  | [], _ => none
  | (k, v) :: l, r => if k = r then some v else look l r

def putR : Rows → Nat → Row → Rows
  | [], r, x => [(r, x)]
  | (k, v) :: l, r, x => if k = r then (r, x) :: l else (k, v) :: putR l r x

def delR : Rows → Nat → Rows
  | [], _ => []
  | (k, v) :: l, r => if k = r then delR l r else (k, v) :: delR l r

def RC.ren (f : Nat → Option Nat) : RC → RC
  | .cells l => .cells (AV.renL f l)
  | .list t xs => .list t xs
  | .loop g st l => .loop g st (AV.renL f l)
  | .map k v xs => .map k v xs
  | .siter s pos => .siter s pos

def RC.refs : RC → List Nat
  | .cells l => AV.refsL l
  | .loop _ _ l => AV.refsL l
  | _ => []

def RC.noImm : RC → Bool
  | .cells l => AV.noImmL l
  | .list t _ => t.flat
  | .loop _ _ l => AV.noImmL l
  | .map k v _ => k.flat && v.flat
  | .siter _ _ => true

/-- The elements of a row. -/
def Row.count (r : Row) : Nat := match r.c with
  | .cells l => l.length / r.sz
  | .list _ xs => xs.length
  | _ => 0

/-- The cells of element i. -/
def Row.at (r : Row) (i : Nat) : List AV := match r.c with
  | .cells l => match i with
    | 0 => l
    | i => (l.drop (i * r.sz)).take r.sz
  | .list t xs => enc t (xs.getD i (dfl t))
  | _ => []

/-! ### The program's types -/
variable (P : Program)

def prodOf : List (Option Ty) → Option Ty
  | [] => none
  | [x] => x
  | x :: r => match x, prodOf r with
    | some a, some b => some (.prod a b)
    | _, _ => none

/-- Is it a tree's type? -/
def isNode (t : TypeId) : Bool := match P.underlying t with
  | some (.struct fs) => match fs.toList with
    | [f0, f1, f2, f3, f4, f5] => (match P.underlying f0.type, P.underlying f1.type, P.underlying f2.type, P.underlying f3.type, P.underlying f4.type, P.underlying f5.type with
      | some (.int .i64), some .string, some (.int .u32), some (.int .i64), some (.slice e), some (.slice e') => e == t && (match P.underlying e' with
        | some .string => true
        | _ => false) && (P.cellsOf t == 6 && P.cellsOf e' == 1 && [f0, f1, f2, f3, f4, f5].map (·.offset) == [0, 1, 2, 3, 4, 5] && [f0, f1, f2, f3, f4, f5].map (fun f => P.cellsOf f.type) == [1, 1, 1, 1, 1, 1])
      | _, _, _, _, _, _ => false)
    | _ => false
  | _ => false

def tyOf : Nat → TypeId → Option Ty
  | 0, _ => none
  | n + 1, t => match P.underlying t with
    | some .bool => some .bool
    | some (.int k) => some (.int k)
    | some .string => some .str
    | some (.slice e) => match tyOf n e with
      | some x => some (.list x)
      | none => none
    | some (.struct fs) => bif isNode P t then some .node else prodOf (fs.toList.map fun f => tyOf n f.type)
    | _ => none

/-- The types of a type's cells. -/
def cellTys : Nat → TypeId → List TypeId
  | 0, _ => []
  | n + 1, t => match P.underlying t with
    | some (.struct fs) => fs.toList.flatMap fun f => cellTys n f.type
    | some (.array k e) => (List.replicate k (cellTys n e)).flatten
    | _ => [t]

def isAggT (t : TypeId) : Bool := match P.underlying t with
  | some (.struct _) | some (.array _ _) => true
  | _ => false

def elemT (t : TypeId) : Option TypeId := match P.underlying t with
  | some (.slice e) => some e
  | _ => none

/-- One cell's value out of the program's text. -/
def ofVal1 (ty : TypeId) : Value → Option AV
  | .bool b => some (.bool b)
  | .int k n => some (.int k n)
  | .string s => some (.str s)
  | .pointer none => some .nilp
  | .slice none 0 0 => (elemT P ty).map .nils
  | .nilIface => some .nili
  | .nilFunc => some .nilf
  | .map none => some .nilm
  | _ => none

def ofVals : List TypeId → List Value → Option (List AV)
  | [], [] => some []
  | t :: ts, v :: vs => match ofVal1 P t v, ofVals ts vs with
    | some x, some l => some (x :: l)
    | _, _ => none
  | _, _ => none

def ofVal (ty : TypeId) : Value → Option AV
  | .agg cs => (ofVals P (cellTys P 20 ty) cs.toList).map .agg
  | v => ofVal1 P ty v

def AV.cells : AV → List AV
  | .agg l => l
  | v => [v]

/-- Nil slices become empty rows: names from nb on, below lim. -/
def mat (lim : Nat) : Nat → List AV → Option (List AV × Rows)
  | _, [] => some ([], [])
  | nb, x :: l => match mat lim (nb + 1) l with
    | some (l', m) => match x with
      | .nils e => match tyOf P 20 e with
        | some t => if nb < lim ∧ 0 < csz t then some (.own nb (csz t) :: l', (nb, ⟨e, csz t, .list t []⟩) :: m) else none
        | none => none
      | x => some (x :: l', m)
    | none => none

def matV (lim nb : Nat) : AV → Option (AV × Rows)
  | .agg l => match mat P lim nb l with
    | some (l', m) => some (.agg l', m)
    | none => none
  | v => match mat P lim nb [v] with
    | some ([x], m) => some (x, m)
    | _ => none

/-! ### What an operation does -/
structure Dl where
  v : AV
  up : List (Nat × Option Row)
  rd : List Nat

inductive OR : Type 1 where
  | fail
  | val (c : Bool) (d : Dl)
  /-- a call: what comes of it (does it come as a panic), and the same with what follows inside -/
  | call {Y : Type} (o : Option Y) (f : Y → Option (Bool × Dl)) (g : (R : Type) → Y → (Bool → Dl → Option R) → Option R) (h : ∀ R y k, g R y k = match f y with | some x => k x.1 x.2 | none => none)
  /-- a panic, of the value -/
  | pan (d : Dl)

/-- What an operation comes to, as a panic or not. -/
def OR.gete : OR → Option (Bool × Dl)
  | .fail => none
  | .val c d => bif c then some (false, d) else none
  | .call o f _ _ => o.bind f
  | .pan d => some (true, d)

def OR.get : OR → Option Dl
  | .fail => none
  | .val c d => bif c then some d else none
  | .call o f _ _ => o.bind fun y => match f y with
    | some (false, d) => some d
    | _ => none
  | .pan _ => none

/-- With what it panics. -/
def OR.getp : OR → Option Dl
  | .pan d => some d
  | .call o f _ _ => o.bind fun y => match f y with
    | some (true, d) => some d
    | _ => none
  | _ => none

def OR.run {R : Type} (o : OR) (k kp : Dl → Option R) : Option R := match o with
  | .fail => none
  | .val c d => bif c then k d else none
  | .call o _ g _ => o.bind fun y => g R y fun p d => match p with
    | true => kp d
    | false => k d
  | .pan d => kp d

def upR : Rows → List (Nat × Option Row) → Rows
  | m, [] => m
  | m, (r, some x) :: u => upR (putR m r x) u
  | m, (r, none) :: u => upR (delR m r) u

/-- A function's number; beyond: that of a method with its receiver. -/
def mB (f : Nat) : Bool := Nat.blt f 1000000
def mEnc (f : Nat) : Nat := 1000000 + f
def mDec (f : Nat) : Nat := f % 1000000
theorem mDec_mEnc {f : Nat} (h : mB f = true) : mDec (mEnc f) = f := by
  unfold mB at h
  rw [Nat.blt_eq] at h
  unfold mDec mEnc
  rw [Nat.add_mod_left, Nat.mod_eq_of_lt h]
theorem mB_mEnc (f : Nat) : mB (mEnc f) = false := by
  unfold mB mEnc
  cases h : Nat.blt (1000000 + f) 1000000 with
  | false => rfl
  | true => rw [Nat.blt_eq] at h; omega

def evO (t : List AV) (ty : TypeId) : Operand → Option AV
  | .tmp n => some (t.getD n .dead)
  | .const v => ofVal P ty v
  | .func f => bif mB f then some (.fn f []) else none
  | .global _ => none

def evOpt (t : List AV) (ty : TypeId) : Option Operand → Option (Option AV)
  | none => some none
  | some v => match evO P t ty v with
    | some y => some (some y)
    | none => none

def pure1 (v : AV) : OR := .val true ⟨v, [], []⟩

def iArith (op : BinOp) (k : IntKind) (x y : Int) : OR := match op with
  | .add => pure1 (.int k (k.wrap (x + y)))
  | .sub => pure1 (.int k (k.wrap (x - y)))
  | .mul => pure1 (.int k (k.wrap (x * y)))
  | .quo => .val (!decide (y = 0)) ⟨.int k (k.wrap (x.tdiv y)), [], []⟩
  | .rem => .val (!decide (y = 0)) ⟨.int k (x.tmod y), [], []⟩
  | .and => pure1 (.int k (k.wrap (BitVec.ofInt k.bits x &&& BitVec.ofInt k.bits y).toNat))
  | .or => pure1 (.int k (k.wrap (BitVec.ofInt k.bits x ||| BitVec.ofInt k.bits y).toNat))
  | .xor => pure1 (.int k (k.wrap (BitVec.ofInt k.bits x ^^^ BitVec.ofInt k.bits y).toNat))
  | .andNot => pure1 (.int k (k.wrap (BitVec.ofInt k.bits x &&& ~~~ BitVec.ofInt k.bits y).toNat))
  | .eql => pure1 (.bool (x == y))
  | .neq => pure1 (.bool (x != y))
  | .lss => pure1 (.bool (ltI x y))
  | .leq => pure1 (.bool (leI x y))
  | .gtr => pure1 (.bool (ltI y x))
  | .geq => pure1 (.bool (leI y x))
  | _ => .fail

def iShift (op : BinOp) (k : IntKind) (x y : Int) : OR := match op with
  | .shl => .val (!ltI y 0) ⟨.int k (k.wrap (x * 2 ^ (min y.toNat k.bits))), [], []⟩
  | .shr => .val (!ltI y 0) ⟨.int k (x.fdiv (2 ^ (min y.toNat k.bits))), [], []⟩
  | _ => .fail

def sBin (op : BinOp) (x y : ByteArray) : OR := match op with
  | .add => .val (leI ((x.size : Int) + y.size) 9223372036854775807) ⟨.str (x ++ y), [], []⟩
  | .eql => pure1 (.bool (x.toList == y.toList))
  | .neq => pure1 (.bool !(x.toList == y.toList))
  | .lss => pure1 (.bool (Op.bytesLess x.toList y.toList))
  | _ => .fail

/-- Two fields that hold no others. -/
def eqLeaf (t : TypeId) (a b : AV) : Option Bool := match P.underlying t, a, b with
  | some (.int _), .int k x, .int k' y => if k = k' then some (x == y) else none
  | some .string, .str x, .str y => some (x.toList == y.toList)
  | some .bool, .bool x, .bool y => some (x == y)
  | _, _, _ => none

def eqAt (xs ys : List AV) (f : Field) : Option Bool := match xs[f.offset]?, ys[f.offset]? with
  | some a, some b => bif f.name == "_" then none else eqLeaf P f.type a b
  | _, _ => none

def eqFs (xs ys : List AV) : List Field → Option Bool
  | [] => some true
  | f :: fs => match fs with
    | [] => eqAt P xs ys f
    | fs => match eqAt P xs ys f, eqFs xs ys fs with
      | some a, some b => some (a && b)
      | _, _ => none

/-- Two structs. -/
def eqAgg (op : BinOp) (xt : TypeId) (xs ys : List AV) : OR := match P.underlying xt with
  | some (.struct fs) => bif P.stoodInHeld xt || P.eqGuardType P.depth xt then .fail else match eqFs P xs ys fs.toList with
    | some b => match op with
      | .eql => pure1 (.bool b)
      | .neq => pure1 (.bool (!b))
      | _ => .fail
    | none => .fail
  | _ => .fail

def bin (op : BinOp) (xt : TypeId) (x y : AV) : OR := match x, y with
  | .agg xs, .agg ys => eqAgg P op xt xs ys
  | .int k a, .int k' b => match op with
    | .shl => iShift .shl k a b
    | .shr => iShift .shr k a b
    | op => if k = k' then iArith op k a b else .fail
  | .str a, .str b => sBin op a b
  | .bool a, .bool b => match P.underlying xt with
    | some .bool => match op with
      | .eql => pure1 (.bool (a == b))
      | .neq => pure1 (.bool (!(a == b)))
      | _ => .fail
    | _ => .fail
  | _, _ => .fail

def un (op : UnOp) (x : AV) : OR := match op, x with
  | .neg, .int k n => pure1 (.int k (k.wrap (0 - n)))
  | .xor, .int k n => pure1 (.int k (k.wrap (BitVec.ofInt k.bits (if k.signed then -1 else k.max) ^^^ BitVec.ofInt k.bits n).toNat))
  | .not, .bool b => pure1 (.bool !b)
  | _, _ => .fail

/-- One of two: the choice goes inside where both are of one kind. -/
def pick2 (c : Bool) (x y : AV) : AV := match x, y with
  | .bool a, .bool b => .bool (bif c then a else b)
  | .int k a, .int k' b => if k = k' then .int k (bif c then a else b) else bif c then x else y
  | .str a, .str b => .str (bif c then a else b)
  | _, _ => bif c then x else y

def bAt (s : ByteArray) (i : Nat) : Int := ((s.data.toList.getD i 0).toNat : Int)

def sBytes (s : ByteArray) : List Int := s.data.toList.map fun b => (b.toNat : Int)
def bytesS (l : List Int) : ByteArray := ⟨(l.map fun n => UInt8.ofNat n.toNat).toArray⟩

/-- Rows laid behind one another. -/
def ups (m : Rows) : List (Nat × Option Row) := m.map fun p => (p.1, some p.2)

def liveL (m : Rows) (l : List AV) : Bool := (AV.refsL l).all fun r => (look m r).isSome

/-- Does a variable of this type begin with a pointer to its own type? -/
def selfPtr (e : TypeId) : Bool := match P.underlying e with
  | some (.struct fs) => match fs[0]? with
    | some f => match P.underlying f.type with
      | some (.pointer e') => decide (e' = e)
      | _ => false
    | none => false
  | _ => false
/-- A new variable that holds a pointer to itself, nil as yet, and a slice, nil. -/
def boxSelf (nb : Nat) (e : TypeId) : List AV → OR
  | [.nilp, .nils te] => match tyOf P 20 te with
    | some t => if 0 < csz t then .val true ⟨.ptr nb 0 2 0, [(nb + 1, some ⟨te, csz t, .list t []⟩), (nb, some ⟨e, 2, .cells [.oref .opt nb, .oref .buf (nb + 1)]⟩)], []⟩ else .fail
    | none => .fail
  | _ => .fail

def boxIt (m : Rows) (nb : Nat) (e : TypeId) (cs : List AV) : OR := match mat P (nb + 64) (nb + 1) cs with
  | some (l, m') => if cs.all AV.isAtom && liveL m cs && decide (0 < l.length)
      then .val true ⟨.ptr nb 0 l.length 0, ups m' ++ [(nb, some ⟨e, l.length, .cells l⟩)], AV.refsL cs⟩ else .fail
  | none => .fail

def zeroOf (t : TypeId) : Option AV := match P.info? t with
  | some i => match i.zero with
    | some z => ofVal P t z
    | none => none
  | none => none

def splice (l : List AV) (off : Nat) (cs : List AV) : List AV := l.take off ++ cs ++ l.drop (off + cs.length)

def place (P : Program) (t : TypeId) (i : Nat) : Option (Nat × Nat × TypeId) := match P.underlying t with
  | some (.struct fs) => match fs[i]? with
    | some f => some (f.offset, P.cellsOf f.type, f.type)
    | none => none
  | some (.array _ e) => some (i * P.cellsOf e, P.cellsOf e, e)
  | some (.slice e) => some (i * P.cellsOf e, P.cellsOf e, e)
  | _ => none

def fillP (m : Rows) (ev : TypeId → Operand → Option AV) (t : TypeId) : List AV → List (Nat × Operand) → Option (List AV)
  | cs, [] => some cs
  | cs, (i, x) :: r => match place P t i with
    | some (off, sz, ft) => match ev ft x with
      | some v => if v.cells.length = sz ∧ off + sz ≤ cs.length ∧ v.cells.all (fun a => a.isAtom) = true ∧ liveL m v.cells = true then fillP m ev t (splice cs off v.cells) r else none
      | none => none
    | none => none

def refsP (ev : TypeId → Operand → Option AV) (t : TypeId) : List (Nat × Operand) → List Nat
  | [] => []
  | (i, x) :: r => (match place P t i with
    | some (_, _, ft) => match ev ft x with
      | some v => AV.refsL v.cells
      | none => []
    | none => []) ++ refsP ev t r

def fieldsKnown (t : TypeId) : Bool := match P.underlying t with
  | some (.struct fs) => fs.toList.all fun f => (P.info? f.type).isSome
  | some (.array _ e) => (P.info? e).isSome
  | _ => false

def opBuild (m : Rows) (t : TypeId) (ev : TypeId → Operand → Option AV) (parts : List (Nat × Operand)) : OR := match zeroOf P t with
  | some z => if z.cells.all AV.isAtom ∧ liveL m z.cells = true ∧ fieldsKnown P t = true then
    match fillP P m ev t z.cells parts with
    | some cs => .val true ⟨.agg cs, [], AV.refsL z.cells ++ refsP P ev t parts⟩
    | none => .fail
    else .fail
  | none => .fail

/-- Literal cells as a list of elements. -/
def decAll (t : Ty) : Nat → List AV → Option (List (El t))
  | 0, [] => some []
  | n + 1, l => match dec t l with
    | some (x, r) => (decAll t n r).map (x :: ·)
    | none => none
  | _, _ => none

def rowOf (e : TypeId) (sz n : Nat) (cs : List AV) : Row := match tyOf P 20 e with
  | some t => if csz t = sz then match decAll t n cs with
    | some xs => ⟨e, sz, .list t xs⟩
    | none => ⟨e, sz, .cells cs⟩
    else ⟨e, sz, .cells cs⟩
  | none => ⟨e, sz, .cells cs⟩

def opBuildSlice (m : Rows) (t : TypeId) (len nb : Nat) (ev : TypeId → Operand → Option AV) (parts : List (Nat × Operand)) : OR := match elemT P t with
  | some e => match zeroOf P e with
    | some z => if z.cells.all AV.isAtom ∧ liveL m z.cells = true ∧ z.cells.length = P.cellsOf e ∧ 0 < P.cellsOf e ∧ len * P.cellsOf e ≤ 16777216 ∧ len < 9223372036854775807 then
      match fillP P m ev t ((List.replicate len z.cells).flatten) parts with
      | some cs => match mat P (nb + 64) (nb + 1) cs with
        | some (l, m') => .val true ⟨.own nb (P.cellsOf e), ups m' ++ [(nb, some (rowOf P e (P.cellsOf e) len l))], refsP P ev t parts⟩
        | none => .fail
      | none => .fail
      else .fail
    | none => .fail
  | none => .fail

def loadOut (t : TypeId) (rd : List Nat) (cs : List AV) : OR :=
  if (P.underlying t).isSome && decide (0 < P.cellsOf t) then
    if isAggT P t then .val true ⟨.agg cs, [], rd⟩ else match cs with
      | [v] => .val true ⟨v, [], rd⟩
      | _ => .fail
  else .fail

def opLoad (m : Rows) (t : TypeId) (a : AV) : OR := match a with
  | .ptr r i sz j => match look m r with
    | some row => if row.sz = sz ∧ j + P.cellsOf t ≤ sz then loadOut P t (match row.c with | .cells _ => [r, 1000000000 + i, 1000000000 + sz, 1000000000 + j] | _ => [r]) (((row.at i).drop j).take (P.cellsOf t)) else .fail
    | none => .fail
  | .icell l => if P.cellsOf t ≤ l.length ∧ (AV.refsL (l.take (P.cellsOf t))).isEmpty then loadOut P t [] (l.take (P.cellsOf t)) else .fail
  | _ => .fail

def storeRow (row : Row) (i j : Nat) (cs : List AV) : Option Row := match row.c with
  | .cells l => some { row with c := .cells (splice l (i * row.sz + j) cs) }
  | .list t' xs => match dec t' (splice (enc t' (xs.getD i (dfl t'))) j cs) with
    | some (x, []) => some { row with c := .list t' (xs.set i x) }
    | _ => none
  | _ => none

def opStore (m : Rows) (t : TypeId) (nb : Nat) (a v : AV) : OR := match mat P (nb + 64) nb v.cells with
  | some (cs, m') => if v.cells.all AV.isAtom && liveL m v.cells && decide (cs.length = P.cellsOf t) && decide (0 < P.cellsOf t) then
    match a with
    | .ptr r i sz j => match look m r with
      | some row => if row.sz = sz ∧ j + cs.length ≤ sz then match storeRow row i j cs with
        | some row' => .val true ⟨.dead, ups m' ++ [(r, some row')], r :: AV.refsL v.cells⟩
        | none => .fail
        else .fail
      | none => .fail
    | _ => .fail
    else .fail
  | none => .fail

/-- A slice's elements, of type t. -/
def elems (m : Rows) (t : Ty) : AV → Option (List (El t) × List Nat)
  | .own r _ => match look m r with
    | some ⟨_, _, .list t' xs⟩ => if h : t' = t then some (h ▸ xs, [r]) else none
    | _ => none
  | .sl r sz off len => match look m r with
    | some ⟨_, sz', .list t' xs⟩ => if h : t' = t then if sz = sz' then some (((h ▸ xs : List (El t)).drop off).take len, [r]) else none else none
    | _ => none
  | .imm t' xs => if h : t' = t then some (h ▸ xs, []) else none
  | .nils _ => some ([], [])
  | _ => none

def elemsX (m : Rows) (t : Ty) (x : AV) : Option (List (El t) × List Nat) := match x with
  | .str b => match t with
    | .int .u8 => some (sBytes b, [])
    | _ => none
  | x => elems m t x

def slOrStr (xt : TypeId) : Bool := match P.underlying xt with
  | some .string => true
  | some (.slice _) => true
  | _ => false

/-- The zero value has as many cells as it should. -/
def zeroSz (e : TypeId) : Bool := match P.info? e with
  | some i => match i.zero with
    | some z => z.cells.size == i.size
    | none => false
  | none => false

def opAppend (m : Rows) (st xt : TypeId) (nb : Nat) (s x : AV) : OR := match elemT P st with
  | some e => match tyOf P 20 e with
    | some t => if slOrStr P xt = true ∧ csz t = P.cellsOf e ∧ 0 < P.cellsOf e ∧ zeroSz P e = true ∧ 0 < P.bytesOf e then
      match elemsX m t x with
      | some (ys, rd) => match s with
        | .nils _ => .val (ltI ((ys.length : Int) * (P.bytesOf e : Int)) 140737488355328) ⟨.own nb (P.cellsOf e), [(nb, some ⟨e, P.cellsOf e, .list t ys⟩)], rd⟩
        | .own r sz => match look m r with
          | some ⟨e', sz', .list t' xs⟩ => if h : t' = t then
            if e' = e ∧ sz' = P.cellsOf e ∧ sz = sz' ∧ rd.contains r = false then
              .val (ltI (((xs.length : Int) + (ys.length : Int)) * (P.bytesOf e : Int)) 140737488355328) ⟨.own nb sz, [(r, none), (nb, some ⟨e, sz', .list t ((h ▸ xs : List (El t)) ++ ys)⟩)], r :: rd⟩
            else .fail
            else .fail
          | _ => .fail
        | _ => .fail
      | none => .fail
      else .fail
    | none => .fail
  | none => .fail

def bufOf : OR → OR
  | .val c ⟨.own q _, up, rd⟩ => .val c ⟨.oref .buf q, up, rd⟩
  | _ => .fail
def opApp (m : Rows) (st xt : TypeId) (nb : Nat) (s x : AV) : OR := match s with
  | .oref .buf r => match elemT P st with
    | some e => bufOf (opAppend P m st xt nb (.own r (P.cellsOf e)) x)
    | none => .fail
  | s => opAppend P m st xt nb s x

def opLen (m : Rows) (t : TypeId) (x : AV) : OR := match P.underlying t, x with
  | some .string, .str s => pure1 (.int .i64 s.size)
  | some (.slice _), .own r _ => match look m r with
    | some row => .val true ⟨.int .i64 row.count, [], [r]⟩
    | none => .fail
  | some (.slice _), .sl r _ _ len => match look m r with
    | some _ => .val true ⟨.int .i64 len, [], [r]⟩
    | none => .fail
  | some (.slice _), .oref .buf r => match look m r with
    | some row => .val true ⟨.int .i64 row.count, [], [r]⟩
    | none => .fail
  | some (.slice _), .imm _ xs => pure1 (.int .i64 xs.length)
  | some (.map _ _), .oref .map r => match look m r with
    | some ⟨_, _, .map _ _ xs⟩ => .val true ⟨.int .i64 xs.length, [], [r]⟩
    | _ => .fail
  | some (.slice _), .nils _ => pure1 (.int .i64 (0 : Nat))
  | _, _ => .fail

def inRange (i : Int) (n : Nat) : Bool := leI 0 i && ltI i (n : Int)

def opIndexAddr (m : Rows) (t : TypeId) (x i : AV) : OR := match P.underlying t, i with
  | some (.slice e), .int _ i => match x with
    | .own r sz => match look m r with
      | some row => if sz = P.cellsOf e ∧ row.sz = sz then .val (inRange i row.count) ⟨.ptr r i.toNat sz 0, [], [r]⟩ else .fail
      | none => .fail
    | .sl r sz off len => match look m r with
      | some row => if sz = P.cellsOf e ∧ row.sz = sz then .val (inRange i len) ⟨.ptr r (off + i.toNat) sz 0, [], [r]⟩ else .fail
      | none => .fail
    | .imm t xs => if csz t = P.cellsOf e then .val (inRange i xs.length) ⟨.icell (enc t (xs.getD i.toNat (dfl t))), [], []⟩ else .fail
    | _ => .fail
  | _, _ => .fail

def gtLook : List (Nat × GTab) → Nat → Option GTab
  | [], _ => none
  | (k, v) :: l, g => if k = g then some v else gtLook l g
/-- What stands at a place of a table. -/
def gstr (g n : Nat) : ByteArray := match gtLook GT g with
  | some (.strs l) => l.getD n ByteArray.empty
  | _ => ByteArray.empty
def gint (g n : Nat) : Int := match gtLook GT g with
  | some (.ints _ l) => l.getD n 0
  | _ => 0
def GTab.cell (g n : Nat) : GTab → AV
  | .strs _ => .str (gstr g n)
  | .ints k _ => .int k (gint g n)
def opIndexG (t : TypeId) (g : Nat) (i : AV) : OR := match P.underlying t, i, gtLook GT g with
  | some (.array n e), .int _ i, some tab => if 0 < P.cellsOf e ∧ n * P.cellsOf e = tab.len then .val (inRange i n) ⟨.icell ((List.range (P.cellsOf e)).map fun j => tab.cell g (i.toNat * P.cellsOf e + j)), [], []⟩ else .fail
  | _, _, _ => .fail
def globalOf : Operand → Option Nat
  | .global g => some g
  | _ => none
/-- A place in an array that a pointer points at. -/
def opIndexArr (m : Rows) (n : Nat) (e : TypeId) (x i : AV) : OR := match i with
  | .int _ i => if 0 < P.cellsOf e then match x with
    | .ptr r q sz j => match look m r with
      | some _ => .val (inRange i n) ⟨.ptr r q sz (j + i.toNat * P.cellsOf e), [], [r]⟩
      | none => .fail
    | .icell l => .val (inRange i n) ⟨.icell (l.drop (i.toNat * P.cellsOf e)), [], []⟩
    | _ => .fail
    else .fail
  | _ => .fail
def opIA (m : Rows) (t : TypeId) (g : Option Nat) (x i : Option AV) : OR := match g, x, i with
  | some g, _, some i => opIndexG P t g i
  | none, some x, some i => match P.underlying t with
    | some (.array n e) => opIndexArr P m n e x i
    | _ => opIndexAddr P m t x i
  | _, _, _ => .fail

def opIndex (t : TypeId) (x i : AV) : OR := match P.underlying t, x, i with
  | some .string, .str s, .int _ i => .val (inRange i s.size) ⟨.int .u8 (bAt s i.toNat), [], []⟩
  | some (.array n e), .agg l, .int _ i => if l.length = n * P.cellsOf e ∧ isAggT P e = false ∧ P.cellsOf e = 1 ∧ (P.underlying e).isSome = true then
      match l with
      | [] => .fail
      | a :: r => .val (inRange i n) ⟨(r.zipIdx 1).foldl (fun acc p => pick2 (decide (i = (p.2 : Int))) p.1 acc) a, [], []⟩
    else .fail
  | _, _, _ => .fail

def opField (t : TypeId) (x : AV) (f : Nat) : OR := match P.underlying t, x with
  | some (.struct fs), .agg l => match fs[f]? with
    | some fd => if isAggT P fd.type then (if (P.underlying fd.type).isSome ∧ 0 < P.cellsOf fd.type then pure1 (.agg ((l.drop fd.offset).take (P.cellsOf fd.type))) else .fail)
      else match l.drop fd.offset with
        | v :: _ => if (P.underlying fd.type).isSome then pure1 v else .fail
        | [] => .fail
    | none => .fail
  | _, _ => .fail

def opNilCheck (m : Rows) (x : AV) : OR := match x with
  | .ptr r i sz j => match look m r with
    | some _ => .val true ⟨.ptr r i sz j, [], [r]⟩
    | none => .fail
  | .icell l => pure1 (.icell l)
  | _ => .fail

def opFieldAddr (m : Rows) (t : TypeId) (x : AV) (f : Nat) : OR := match P.underlying t with
  | some (.struct fs) => match fs[f]? with
    | some fd => if P.cellsOf fd.type = 0 then .fail else match x with
      | .ptr r i sz j => match look m r with
        | some _ => .val true ⟨.ptr r i sz (j + fd.offset), [], [r]⟩
        | none => .fail
      | .icell l => pure1 (.icell (l.drop fd.offset))
      | _ => .fail
    | none => .fail
  | _ => .fail

def iOf : AV → Option Int
  | .int _ n => some n
  | _ => none

def opSlice (m : Rows) (t : TypeId) (x : AV) (lo hi mx : Option AV) : OR := match P.underlying t, x, mx with
  | some .string, .str s, none => match lo, hi with
    | none, none => pure1 (.str s)
    | none, some (.int _ h) => .val (leI 0 h && leI h (s.size : Int)) ⟨.str (s.extract 0 h.toNat), [], []⟩
    | some (.int _ l), none => .val (leI 0 l && leI l (s.size : Int)) ⟨.str (s.extract l.toNat s.size), [], []⟩
    | some (.int _ l), some (.int _ h) => .val (leI 0 l && (leI l h && leI h (s.size : Int))) ⟨.str (s.extract l.toNat h.toNat), [], []⟩
    | _, _ => .fail
  | some (.slice e), x, none => match x with
    | .imm ty xs => if csz ty = P.cellsOf e then match lo, hi with
      | none, none => pure1 (.imm ty xs)
      | none, some (.int _ h) => .val (leI 0 h && leI h (xs.length : Int)) ⟨.imm ty (xs.take h.toNat), [], []⟩
      | some (.int _ l), none => .val (leI 0 l && leI l (xs.length : Int)) ⟨.imm ty (xs.drop l.toNat), [], []⟩
      | some (.int _ l), some (.int _ h) => .val (leI 0 l && (leI l h && leI h (xs.length : Int))) ⟨.imm ty ((xs.take h.toNat).drop l.toNat), [], []⟩
      | _, _ => .fail
      else .fail
    | .own r sz => match look m r with
      | some row => if sz = P.cellsOf e ∧ row.sz = sz then match lo, hi with
        | none, none => .val true ⟨.own r sz, [], [r]⟩
        | none, some (.int _ h) => .val (leI 0 h && leI h (row.count : Int)) ⟨.sl r sz 0 h.toNat, [], [r]⟩
        | some (.int _ l), none => .val (leI 0 l && leI l (row.count : Int)) ⟨.sl r sz l.toNat (row.count - l.toNat), [], [r]⟩
        | some (.int _ l), some (.int _ h) => .val (leI 0 l && (leI l h && leI h (row.count : Int))) ⟨.sl r sz l.toNat (h.toNat - l.toNat), [], [r]⟩
        | _, _ => .fail
        else .fail
      | none => .fail
    | .sl r sz off len => match look m r with
      | some row => if sz = P.cellsOf e ∧ row.sz = sz then match lo, hi with
        | none, none => .val true ⟨.sl r sz off len, [], [r]⟩
        | none, some (.int _ h) => .val (leI 0 h && leI h (len : Int)) ⟨.sl r sz off h.toNat, [], [r]⟩
        | some (.int _ l), none => .val (leI 0 l && leI l (len : Int)) ⟨.sl r sz (off + l.toNat) (len - l.toNat), [], [r]⟩
        | some (.int _ l), some (.int _ h) => .val (leI 0 l && (leI l h && leI h (len : Int))) ⟨.sl r sz (off + l.toNat) (h.toNat - l.toNat), [], [r]⟩
        | _, _ => .fail
        else .fail
      | none => .fail
    | _ => .fail
  | some (.slice e), x, some (.int _ 0) => match lo, hi with
    | none, some (.int _ 0) => if (P.info? e).isNone then .fail else match x with
      | .imm _ _ => pure1 (.nils e)
      | .own r _ => match look m r with
        | some _ => .val true ⟨.nils e, [], [r]⟩
        | none => .fail
      | .nils _ => pure1 (.nils e)
      | _ => .fail
    | _, _ => .fail
  | _, _, _ => .fail

def decs (t : Ty) : Nat → List AV → Option (List (El t))
  | 0, _ => some []
  | n + 1, l => match dec t l with
    | some (x, r) => match decs t n r with
      | some xs => some (x :: xs)
      | none => none
    | none => none
/-- With arrays that stay as they are. -/
def opSliceX (m : Rows) (t : TypeId) (x : AV) (lo hi mx : Option AV) : OR := match P.underlying t with
  | some (.array n e) => match x, lo, hi, mx, tyOf P 20 e with
    | .icell l, none, none, none, some ty => if csz ty = P.cellsOf e then (match decs ty n l with
      | some xs => pure1 (.imm ty xs)
      | none => .fail) else .fail
    | _, _, _, _, _ => .fail
  | _ => opSlice P m t x lo hi mx

def opMake (t : TypeId) (nb : Nat) (l c : AV) : OR := match elemT P t, l, c with
  | some e, .int _ l, .int _ c => match tyOf P 20 e with
    | some ty => match zeroOf P e with
      | some z => match dec ty z.cells with
        | some (x, []) => if csz ty = P.cellsOf e ∧ 0 < P.cellsOf e ∧ z.cells.all AV.isAtom ∧ z.cells.length = P.cellsOf e then
          .val (leI 0 l && (leI l c && (ltI (c * (P.bytesOf e : Int)) 140737488355328 && ltI c 140737488355328)))
            ⟨.own nb (P.cellsOf e), [(nb, some ⟨e, P.cellsOf e, .list ty (List.replicate l.toNat x)⟩)], []⟩
          else .fail
        | _ => .fail
      | none => .fail
    | none => .fail
  | _, _, _ => .fail

def opConv (m : Rows) (src dst : TypeId) (nb : Nat) (x : AV) : OR := match P.underlying src, P.underlying dst, x with
  | some (.int _), some (.int k), .int _ n => pure1 (.int k (k.wrap n))
  | some .string, some .string, .str s => pure1 (.str s)
  | some .string, some (.slice e), .str s => match P.underlying e with
    | some (.int .u8) => if P.cellsOf e = 1 then .val (ltI (s.size : Int) 140737488355328) ⟨.own nb 1, [(nb, some ⟨e, 1, .list (.int .u8) (sBytes s)⟩)], []⟩ else .fail
    | _ => .fail
  | some (.slice e), some .string, x => match P.underlying e with
    | some (.int .u8) => match elems m (.int .u8) x with
      | some (l, rd) => .val true ⟨.str (bytesS l), [], rd⟩
      | none => .fail
    | _ => .fail
  | _, _, _ => .fail

/-- A slice's part that is made empty again. -/
def opClear (m : Rows) (t : TypeId) (x : AV) : OR := match elemT P t, x with
  | some e, .sl r sz off len => match zeroOf P e, look m r with
    | some z, some ⟨e', sz', .list ty xs⟩ => match dec ty z.cells with
      | some (q, []) => if sz' = P.cellsOf e ∧ sz = sz' ∧ z.cells.all AV.isAtom = true ∧ z.cells.length = P.cellsOf e ∧ 0 < P.cellsOf e then
          .val true ⟨.tup [], [(r, some ⟨e', sz', .list ty (xs.take off ++ (List.replicate len q ++ xs.drop (off + len)))⟩)], [r]⟩ else .fail
      | _ => .fail
    | _, _ => .fail
  | _, _ => .fail

/-! ### Pointers -/
def isEqOp : BinOp → Option Bool
  | .eql => some true
  | .neq => some false
  | _ => none

def ptrT (t : TypeId) : Option TypeId := match P.underlying t with
  | some (.pointer e) => some e
  | _ => none

/-- Pointers held against each other. -/
def opPtr (m : Rows) (op : BinOp) (xt : TypeId) (x y : AV) : OR := match isEqOp op, ptrT P xt with
  | some want, some e => match x, y with
    | .ptr r _ _ _, .nilp => match look m r with
      | some _ => .val true ⟨.bool (!want), [], [r]⟩
      | none => .fail
    | .nilp, .ptr r _ _ _ => match look m r with
      | some _ => .val true ⟨.bool (!want), [], [r]⟩
      | none => .fail
    | .nilp, .nilp => pure1 (.bool want)
    | .icell _, .nilp => pure1 (.bool (!want))
    | .nilp, .icell _ => pure1 (.bool (!want))
    | .ptr r i sz j, .ptr r' i' sz' j' => match look m r with
      | some _ => if r = r' ∧ i = i' ∧ sz = sz' ∧ j = j' ∧ (P.info? e).isSome = true then .val true ⟨.bool want, [], [r]⟩ else .fail
      | none => .fail
    | _, _ => .fail
  | _, _ => .fail

def isPtrV : AV → Bool
  | .ptr _ _ _ _ | .nilp | .icell _ => true
  | _ => false

def isIfaceV : AV → Bool
  | .iface _ _ | .nili => true
  | _ => false

/-- An interface's value held against nil. -/
def opIfaceEq (op : BinOp) (xt : TypeId) (x y : AV) : OR := match isEqOp op, P.underlying xt with
  | some want, some (.interface _) => match x, y with
    | .iface _ _, .nili => pure1 (.bool (!want))
    | .nili, .iface _ _ => pure1 (.bool (!want))
    | _, _ => .fail
  | _, _ => .fail

/-- nil held against nil, where one is written so. -/
def opNilEq (op : BinOp) (xt : TypeId) : OR := match isEqOp op, P.underlying xt with
  | some want, some (.interface _) => pure1 (.bool want)
  | _, _ => .fail

def isNilC : Operand → Bool
  | .const .nilIface => true
  | _ => false

/-! ### Maps -/
/-- Are two keys one? -/
def eqE : (t : Ty) → El t → El t → Bool
  | .int _, a, b => (a : Int) == b
  | .bool, a, b => (a : Bool) == b
  | .str, a, b => ByteArray.toList a == ByteArray.toList b
  | .prod s t, a, b => eqE s a.1 b.1 && eqE t a.2 b.2
  | _, _, _ => false

def getE {α β : Type} (eq : α → α → Bool) (key : α) (d : β) : List (α × β) → β
  | [] => d
  | p :: r => bif eq key p.1 then p.2 else getE eq key d r
def hasE {α β : Type} (eq : α → α → Bool) (key : α) : List (α × β) → Bool
  | [] => false
  | p :: r => eq key p.1 || hasE eq key r
def setE {α β : Type} (eq : α → α → Bool) (key : α) (x : β) : List (α × β) → List (α × β)
  | [] => [(key, x)]
  | p :: r => bif eq key p.1 then (key, x) :: r else p :: setE eq key x r
def delE {α β : Type} (eq : α → α → Bool) (key : α) : List (α × β) → List (α × β)
  | [] => []
  | p :: r => bif eq key p.1 then r else p :: delE eq key r

def leafIs (ft : TypeId) (t : Ty) : Bool := match P.underlying ft, t with
  | some (.int _), .int _ => true
  | some .string, .str => true
  | some .bool, .bool => true
  | _, _ => false
def keyFs : List Field → Nat → Ty → Bool
  | [], _, _ => false
  | f :: fs, i, t => match fs with
    | [] => (f.offset == i && f.name != "_") && leafIs P f.type t
    | fs => match t with
      | .prod a b => ((f.offset == i && f.name != "_") && leafIs P f.type a) && keyFs fs (i + 1) b
      | _ => false
/-- A type whose values are keys. -/
def keyOK (kt : TypeId) (k : Ty) : Bool := leafIs P kt k || match P.underlying kt with
  | some (.struct fs) => (!P.stoodInHeld kt && keyFs P fs.toList 0 k) && decide (2 ≤ fs.size)
  | _ => false

def wideT : Ty → Bool
  | .prod _ _ => true
  | .node => true
  | _ => false
def AV.isAgg : AV → Bool
  | .agg _ => true
  | _ => false
/-- A value of a type, read. -/
def elOf (t : Ty) (x : AV) : Option (El t) := match dec t x.cells with
  | some (e, []) => bif x.isAgg == wideT t then some e else none
  | _ => none

def opMakeMap (t : TypeId) (nb : Nat) : OR := match P.underlying t with
  | some (.map kt et) => match tyOf P 20 kt, tyOf P 20 et with
    | some k, some v => .val true ⟨.oref .map nb, [(nb, some ⟨t, 1, .map k v []⟩)], []⟩
    | _, _ => .fail
  | _ => .fail
def opLookup (m : Rows) (t : TypeId) (x i : AV) (ok : Bool) : OR := match P.underlying t, x with
  | some (.map kt et), .oref .map r => match look m r, zeroOf P et with
    | some ⟨_, _, .map k v xs⟩, some z => match keyOK P kt k, elOf k i, elOf v z with
      | true, some key, some d => .val true ⟨bif ok then .tup [av1 v (getE (eqE k) key d xs), .bool (hasE (eqE k) key xs)] else av1 v (getE (eqE k) key d xs), [], [r]⟩
      | _, _, _ => .fail
    | _, _ => .fail
  | some (.map kt et), .nilm => match tyOf P 20 kt, tyOf P 20 et, zeroOf P et with
    | some k, some v, some z => match keyOK P kt k, elOf k i, elOf v z with
      | true, some _, some d => .val true ⟨bif ok then .tup [av1 v d, .bool false] else av1 v d, [], []⟩
      | _, _, _ => .fail
    | _, _, _ => .fail
  | _, _ => .fail
def opMapUpd (m : Rows) (t : TypeId) (x i y : AV) : OR := match P.underlying t, x with
  | some (.map kt _), .oref .map r => match look m r with
    | some ⟨e, sz, .map k v xs⟩ => match keyOK P kt k, elOf k i, elOf v y with
      | true, some key, some val => .val true ⟨.dead, [(r, some ⟨e, sz, .map k v (setE (eqE k) key val xs)⟩)], [r]⟩
      | _, _, _ => .fail
    | _ => .fail
  | _, _ => .fail
def opDelete (m : Rows) (t : TypeId) (x i : AV) : OR := match P.underlying t, x with
  | some (.map kt _), .oref .map r => match look m r with
    | some ⟨e, sz, .map k v xs⟩ => match keyOK P kt k, elOf k i with
      | true, some key => .val true ⟨.tup [], [(r, some ⟨e, sz, .map k v (delE (eqE k) key xs)⟩)], [r]⟩
      | _, _ => .fail
    | _ => .fail
  | _, _ => .fail
def isMapV : AV → Bool
  | .oref .map _ => true
  | .nilm => true
  | _ => false
/-- A map held against nil. -/
def opMapEq (m : Rows) (op : BinOp) (xt : TypeId) (x y : AV) : OR := match isEqOp op, P.underlying xt with
  | some want, some (.map _ _) => match x, y with
    | .oref .map r, .nilm => match look m r with
      | some ⟨_, _, .map _ _ _⟩ => .val true ⟨.bool (!want), [], [r]⟩
      | _ => .fail
    | .nilm, .nilm => pure1 (.bool want)
    | _, _ => .fail
  | _, _ => .fail
/-- A map that is copied. -/
def opMClone (m : Rows) (nb : Nat) : List AV → OR
  | [.iface t (.oref .map r)] => match look m r with
    | some ⟨e, sz, .map k v xs⟩ => .val true ⟨.iface t (.oref .map nb), [(nb, some ⟨e, sz, .map k v xs⟩)], [r]⟩
    | _ => .fail
  | _ => .fail

def bin2 (m : Rows) (op : BinOp) (xt : TypeId) (x y : AV) : OR := bif isPtrV x && isPtrV y then opPtr P m op xt x y else bif isIfaceV x && isIfaceV y then opIfaceEq P op xt x y else bif isMapV x && isMapV y then opMapEq P m op xt x y else bin P op xt x y

/-- A value of an interface. -/
def opIface (xt : TypeId) (x : AV) : OR := match P.underlying xt with
  | some (.interface _) => .fail
  | some _ => pure1 (.iface xt x)
  | none => .fail

/-- Which type an interface's value is of. -/
def opAssert (x : AV) (asserted : TypeId) (ok : Bool) : OR := match P.underlying asserted, x with
  | some (.interface _), _ => .fail
  | some _, .iface t v => if t = asserted then pure1 (bif ok then .tup [v, .bool true] else v) else .fail
  | _, _ => .fail

def sized (t : TypeId) : Bool := match P.info? t with
  | some i => i.size != 0
  | none => false

/-- A pointer that is told as one of another type, and back. -/
def opConvP (m : Rows) (s d : TypeId) (x : AV) : OR := match x with
  | .ptr r 0 sz 0 => match look m r with
    | some row => if row.sz = sz then match P.underlying s, P.underlying d with
      | some (.pointer t), some .unsafePointer => if sized P t = true then .val true ⟨.ptr r 0 sz 0, [], [r]⟩ else .fail
      | some .unsafePointer, some (.pointer u) => if row.e = u ∧ sz = P.cellsOf u ∧ (P.info? u).isSome = true then .val true ⟨.ptr r 0 sz 0, [], [r]⟩ else .fail
      | _, _ => .fail
      else .fail
    | none => .fail
  | _ => .fail

def conv2 (m : Rows) (s d : TypeId) (nb : Nat) (x : AV) : OR := bif isPtrV x then opConvP P m s d x else opConv P m s d nb x

/-- Where a slice's elements begin. -/
def opSliceData (m : Rows) (ty : TypeId) (x : AV) : OR := match x with
  | .own r sz => match look m r with
    | some row => if row.sz = sz then .val (decide (0 < row.count)) ⟨.oref .data r, [], [r]⟩ else .fail
    | none => .fail
  | .oref .buf r => match look m r with
    | some row => if row.c.isObj = false ∧ (ptrT P ty).isSome = true then .val true ⟨.oref .data r, [], [r]⟩ else .fail
    | none => .fail
  | _ => .fail

/-- Bytes that become a string: their row is given up. -/
def opUStr (m : Rows) (pt : TypeId) (x n : AV) : OR := match x, n with
  | .oref .data r, .int .i64 n => match look m r with
    | some ⟨e, 1, .list (.int .u8) xs⟩ => if ptrT P pt = some e ∧ P.cellsOf e = 1 then .val (decide (n = xs.length)) ⟨.str (bytesS xs), [(r, none)], [r]⟩ else .fail
    | _ => .fail
  | _, _ => .fail

/-- It gives back what it is given. -/
def isSame (f : FuncId) : Bool := match P.funcs[f]? with
  | some fn => fn.body.isNone && (fn.name == "internal/abi.NoEscape" && fn.origin == "")
  | none => false

/-- It copies a map. -/
def isMClone (f : FuncId) : Bool := match P.funcs[f]? with
  | some fn => fn.body.isNone && (fn.name == "maps.clone" && fn.origin == "")
  | none => false

def minmax (op : Bool) : AV → List AV → Option AV
  | v, [] => some v
  | .int k x, .int k' y :: r => if k = k' then minmax op (.int k (if (if op then y < x else y > x) then y else x)) r else none
  | _, _ => none

/-! ### Calls -/
structure CallR where
  /-- how many names stay where they are, if their rows do -/
  mm : Nat
  /-- rows that stay as they are -/
  keep : List Nat
  Y : Type
  o : Option Y
  /-- as a panic? its value, or the result; rows -/
  f : Y → Bool × AV × Rows
  g : (R : Type) → Y → (Bool → AV → Rows → Option R) → Option R
  h : ∀ R y k, g R y k = k (f y).1 (f y).2.1 (f y).2.2

structure Cx where
  P : Program
  /-- what is known of functions: arguments, the rows that they name (0, 1, ..) -/
  D : FuncId → List AV → Rows → Option CallR
  /-- which arguments are handed over to be written -/
  md : FuncId → List Bool

/-- What names are reached, in the order in which they are met; none: one of them is no row. -/
def reach (m : Rows) : Nat → List Nat → List Nat → Option (List Nat)
  | 0, _, _ => none
  | _, [], seen => some seen
  | n + 1, r :: q, seen => if seen.contains r then reach m n q seen else match look m r with
    | some row => reach m n (q ++ row.c.refs) (seen ++ [r])
    | none => none

def idx (l : List Nat) (r : Nat) : Option Nat := match l with
  | [] => none
  | x :: l => if x = r then some 0 else (idx l r).map (· + 1)

def lentL (f : AV → Option (AV × List Nat)) : List AV → Option (List AV × List Nat)
  | [] => some ([], [])
  | x :: l => match f x, lentL f l with
    | some (y, a), some (l', b) => some (y :: l', a ++ b)
    | _, _ => none

/-- Seen as what stays as it is; which rows were looked at. -/
def AV.lent (P : Program) (m : Rows) : Nat → AV → Option (AV × List Nat)
  | 0, _ => none
  | n + 1, x => match x with
    | .own r _ => match look m r with
      | some ⟨_, _, .list t xs⟩ => some (.imm t xs, [r])
      | _ => none
    | .sl r sz off len => match look m r with
      | some ⟨_, sz', .list t xs⟩ => if sz = sz' then some (.imm t ((xs.drop off).take len), [r]) else none
      | _ => none
    | .ptr r i sz j => match look m r with
      | some row => if row.sz = sz then match lentL (AV.lent P m n) ((row.at i).drop j) with
        | some (l, rd) => some (.icell l, r :: rd)
        | none => none
        else none
      | none => none
    | .nils e => match tyOf P 20 e with
      | some t => some (.imm t [], [])
      | none => none
    | .agg l => match lentL (AV.lent P m n) l with
      | some (l', rd) => some (.agg l', rd)
      | none => none
    | .tup l => match lentL (AV.lent P m n) l with
      | some (l', rd) => some (.tup l', rd)
      | none => none
    | .fn f l => match lentL (AV.lent P m n) l with
      | some (l', rd) => some (.fn f l', rd)
      | none => none
    | .int k n => some (.int k n, [])
    | .bool b => some (.bool b, [])
    | .str s => some (.str s, [])
    | .nilp => some (.nilp, [])
    | .icell l => some (.icell l, [])
    | .imm t xs => some (.imm t xs, [])
    | .nili => some (.nili, [])
    | .nilf => some (.nilf, [])
    | .nilm => some (.nilm, [])
    | _ => none

/-- The arguments: those that are handed over stay, the others are lent. -/
def lendArgs (P : Program) (m : Rows) : List Bool → List AV → Option (List AV × List Nat × List Nat)
  | _, [] => some ([], [], [])
  | b :: bs, x :: l => match lendArgs P m bs l with
    | some (l', hs, rd) => if b then some (x :: l', x.refs ++ hs, rd) else match AV.lent P m 5 x with
      | some (y, a) => some (y :: l', hs, a ++ rd)
      | none => none
    | none => none
  | [], x :: l => match lendArgs P m [] l with
    | some (l', hs, rd) => match AV.lent P m 5 x with
      | some (y, a) => some (y :: l', hs, a ++ rd)
      | none => none
    | none => none

def rowsAt (m : Rows) (f : Nat → Option Nat) : Nat → List Nat → Rows
  | _, [] => []
  | i, r :: l => match look m r with
    | some row => (i, { row with c := row.c.ren f }) :: rowsAt m f (i + 1) l
    | none => rowsAt m f (i + 1) l

def back (names : List Nat) (nb n : Nat) : Option Nat := if n < names.length then names[n]? else if n < names.length + 64 then some (nb + (n - names.length)) else none

def disj (a b : List Nat) : Bool := a.all fun x => !b.contains x

def rowsBack (β : Nat → Option Nat) (m : Rows) : Rows → List (Nat × Option Row)
  | [] => []
  | (n, _) :: l => match β n, look m n with
    | some q, some row => (q, some { row with c := row.c.ren β }) :: rowsBack β m l
    | _, _ => rowsBack β m l

/-- What a row is: handed over itself, or no list and no map; a map; a list. -/
def kindR (m : Rows) (hs : List Nat) (r : Nat) : Nat := bif hs.contains r then 0 else match look m r with
  | some ⟨_, _, .list _ _⟩ => 2
  | some ⟨_, _, .map _ _ _⟩ => 1
  | _ => 0

/-- Maps, and lists, that are reached through others come last; of lists those that are met first. -/
def orderR (m : Rows) (hs l : List Nat) : List Nat := l.filter (fun r => Nat.beq (kindR m hs r) 0) ++ (l.filter (fun r => Nat.beq (kindR m hs r) 1) ++ (l.filter (fun r => Nat.beq (kindR m hs r) 2)).reverse)

/-- What is reached, in order. -/
def reachO (m : Rows) (hs : List Nat) : Option (List Nat) := match reach m 60 hs [] with
  | some l => some (orderR m hs l)
  | none => none

/-- Of the rows that a call leaves as they are those of which all that they name keeps its name. -/
def keptQ (m : Rows) (names : List Nat) (mm : Nat) (kp : List Nat) : List Nat := kp.filter fun q => Nat.blt q mm && match names[q]? with
  | some r => match look m r with
    | some row => row.c.refs.all fun x => match idx names x with
      | some i => Nat.blt i mm
      | none => false
    | none => false
  | none => false

def dropK (kq : List Nat) : Nat → List Nat → List Nat
  | _, [] => []
  | i, r :: l => bif kq.contains i then dropK kq (i + 1) l else r :: dropK kq (i + 1) l

/-- What a call makes here of what is known of it. Where what comes may lie in what was lent, that is given up. -/
def callD (kq names nm bn : List Nat) (nb : Nat) (x : Bool × AV × Rows) : Option (Bool × Dl) :=
  if bn.isEmpty || (x.2.1.noImm && x.2.2.all fun p => p.2.c.noImm) then some (x.1, ⟨x.2.1.ren (back nm nb), ((dropK kq 0 names).map fun r => (r, none)) ++ rowsBack (back nm nb) x.2.2 (x.2.2.filter fun p => !kq.contains p.1), names ++ bn⟩)
  else some (x.1, ⟨x.2.1.ren (back nm nb), (bn.map fun r => (r, none)) ++ ((names.map fun r => (r, none)) ++ rowsBack (back nm nb) x.2.2 x.2.2), names ++ bn⟩)

/-- What a call comes to, told of what is known of it. -/
def callO (c : CallR) (kq names bn : List Nat) (nb : Nat) : OR := .call c.o (fun y => callD kq names (names.take c.mm) bn nb (c.f y)) (fun R y k => c.g R y fun pn res rows3 =>
    if bn.isEmpty || (res.noImm && rows3.all fun p => p.2.c.noImm) then k pn ⟨res.ren (back (names.take c.mm) nb), ((dropK kq 0 names).map fun r => (r, none)) ++ rowsBack (back (names.take c.mm) nb) rows3 (rows3.filter fun p => !kq.contains p.1), names ++ bn⟩
    else k pn ⟨res.ren (back (names.take c.mm) nb), (bn.map fun r => (r, none)) ++ ((names.map fun r => (r, none)) ++ rowsBack (back (names.take c.mm) nb) rows3 rows3), names ++ bn⟩)
  (by
    intro R y k
    rw [c.h]
    unfold callD
    split <;> rfl)

def opCall (cx : Cx) (m : Rows) (nb : Nat) (f : FuncId) (avs : List AV) : OR := match lendArgs cx.P m (cx.md f) avs with
  | some (as1, hs, bn) => match reachO m hs with
    | some names => if disj names bn then
        match cx.D f (AV.renL (idx names) as1) (rowsAt m (idx names) 0 names) with
        | some c => callO c (keptQ m names c.mm c.keep) names bn nb
        | none => .fail
      else .fail
    | none => .fail
  | none => .fail

/-- A function's number; a round's are beyond. -/
def fnB (f : Nat) : Bool := Nat.blt f 1000000

/-- A round's number, as a function's. -/
def rid (f key : Nat) : FuncId := 1000000 * (key + 1) + f

/-- What a range has given is called: a round. -/
def opYield (cx : Cx) (m : Rows) (nb r : Nat) (avs : List AV) : OR := match look m r with
  | some ⟨_, _, .loop id _ _⟩ => bif fnB id then .fail else match opCall cx m nb id (avs ++ [.oref .yield r]) with
    | .call o f g h => .call o (fun y => match f y with
        | some (false, d) => some (false, { d with rd := r :: d.rd })
        | _ => none) (fun R y k => g R y fun p d => match p with
        | true => none
        | false => k false { d with rd := r :: d.rd })
        (by
          intro R y k
          rw [h]
          cases f y with
          | none => rfl
          | some x => obtain ⟨p, d⟩ := x; cases p <;> rfl)
    | _ => .fail
  | _ => .fail

def evL (P : Program) (t : List AV) : List TypeId → List Operand → Option (List AV)
  | ty :: ts, x :: l => match evO P t ty x, evL P t ts l with
    | some v, some r => some (v :: r)
    | _, _ => none
  | [], x :: l => match evO P t 0 x, evL P t [] l with
    | some v, some r => some (v :: r)
    | _, _ => none
  | _, [] => some []

def opBuiltin (P : Program) (b : Builtin) (m : Rows) (nb : Nat) (ty : TypeId) (tys : List TypeId) (avs : List AV) : OR := match b, tys, avs with
  | .len, t :: _, [x] => opLen P m t x
  | .append, st :: xt :: _, [s, x] => opApp P m st xt nb s x
  | .min, _, v :: l => match v, minmax true v l with
    | .int _ _, some r => pure1 r
    | _, _ => .fail
  | .max, _, v :: l => match v, minmax false v l with
    | .int _ _, some r => pure1 r
    | _, _ => .fail
  | .unsafeSliceData, _, [x] => opSliceData P m ty x
  | .unsafeString, pt :: _, [x, n] => opUStr P m pt x n
  | .delete, t :: _, [x, i] => opDelete P m t x i
  | .clear, t :: _, [x] => opClear P m t x
  | _, _, _ => .fail

/-- What an operation does, in a state. -/
def adel (cx : Cx) (o : Oper) (nb : Nat) (t0 : List AV) (m : Rows) : OR :=
  let P := cx.P
  let ev := evO P t0
  match o.op with
  | .move x => match ev o.type x with
    | some v => pure1 v
    | none => .fail
  | .assign x => match ev o.type x with
    | some v => match matV P (nb + 64) nb v with
      | some (v', m') => .val true ⟨v', ups m', []⟩
      | none => .fail
    | none => .fail
  | .pick c a b => match ev o.type c, ev o.type a, ev o.type b with
    | some (.bool c), some a, some b => pure1 (pick2 c a b)
    | _, _, _ => .fail
  | .alloc e => match zeroOf P e with
    | some z => bif selfPtr P e then boxSelf P nb e z.cells else boxIt P m nb e z.cells
    | none => .fail
  | .box e x => match ev e x with
    | some v => boxIt P m nb e v.cells
    | none => .fail
  | .build t parts => opBuild P m t ev parts.toList
  | .buildSlice t len parts => opBuildSlice P m t len nb ev parts.toList
  | .load t a => match ev o.type a with
    | some a => opLoad P m t a
    | none => .fail
  | .store t a x => match ev o.type a, ev t x with
    | some a, some v => opStore P m t nb a v
    | _, _ => .fail
  | .nilCheck x => match ev o.type x with
    | some x => opNilCheck m x
    | none => .fail
  | .binOp op xt x y _ => match ev xt x, ev xt y with
    | some .nili, some .nili => bif isNilC x || isNilC y then opNilEq P op xt else .fail
    | some x, some y => bin2 P m op xt x y
    | _, _ => .fail
  | .makeInterface xt x => match ev xt x with
    | some x => opIface P xt x
    | none => .fail
  | .typeAssert x _ t ok => match ev o.type x with
    | some x => opAssert P x t ok
    | none => .fail
  | .panic x => match ev o.type x with
    | some (.iface t v) => .pan ⟨.iface t v, [], []⟩
    | _ => .fail
  | .unOp op xt x => match ev xt x with
    | some x => un op x
    | none => .fail
  | .convert s d x => match ev s x with
    | some x => conv2 P m s d nb x
    | none => .fail
  | .makeFunc (.func f) first cap => match evL P t0 [] first.toList, evL P t0 [] cap.toList with
    | some [], some l => bif mB f then pure1 (.fn f l) else .fail
    | some [x], some [] => bif mB f then pure1 (.fn (mEnc f) [x]) else .fail
    | _, _ => .fail
  | .makeMap t r => match evOpt P t0 o.type r with
    | some none => opMakeMap P t nb
    | some (some (.int _ _)) => opMakeMap P t nb
    | _ => .fail
  | .lookup t x i ok => match ev o.type x, ev o.type i with
    | some x, some i => opLookup P m t x i ok
    | _, _ => .fail
  | .mapUpdate t x i y => match ev o.type x, ev o.type i, ev o.type y with
    | some x, some i, some y => opMapUpd P m t x i y
    | _, _, _ => .fail
  | .insert t x i y => match ev o.type x, ev o.type i, ev o.type y with
    | some x, some i, some y => opMapUpd P m t x i y
    | _, _, _ => .fail
  | .makeSlice t l c => match ev o.type l, ev o.type c with
    | some l, some c => opMake P t nb l c
    | _, _ => .fail
  | .slice t x lo hi mx => match ev t x, evOpt P t0 o.type lo, evOpt P t0 o.type hi, evOpt P t0 o.type mx with
    | some x, some lo, some hi, some mx => opSliceX P m t x lo hi mx
    | _, _, _, _ => .fail
  | .fieldAddr t x f => match ev o.type x with
    | some x => opFieldAddr P m t x f
    | none => .fail
  | .field t x f => match ev t x with
    | some x => opField P t x f
    | none => .fail
  | .indexAddr t x i => opIA P m t (globalOf x) (ev t x) (ev o.type i)
  | .index t x i => match ev t x, ev o.type i with
    | some x, some i => opIndex P t x i
    | _, _ => .fail
  | .extract x i => match ev o.type x with
    | some (.tup l) => match l[i]? with
      | some v => pure1 v
      | none => .fail
    | _ => .fail
  | .call c => match evL P t0 c.argTypes.toList c.args.toList with
    | some avs => match c.callee with
      | .builtin b => opBuiltin P b m nb o.type c.argTypes.toList avs
      | .value f => match ev 0 f with
        | some (.fn f cap) => bif mB f then (bif isSame P f then (match avs ++ cap with | [x] => pure1 x | _ => .fail) else bif isMClone P f then opMClone m nb (avs ++ cap) else bif fnB f then opCall cx m nb f (avs ++ cap) else .fail)
            else bif fnB (mDec f) then opCall cx m nb (mDec f) (cap ++ avs) else .fail
        | some (.oref .yield r) => opYield cx m nb r avs
        | _ => .fail
      | _ => .fail
    | none => .fail
  | _ => .fail

/-- It may panic. -/
def mayP : Op → Bool
  | .panic _ => true
  | .call c => match c.callee with
    | .value _ => true
    | _ => false
  | _ => false

def putT (t : List AV) (d : Option Tmp) (v : AV) : List AV := match d with
  | some d => t.set d v
  | none => t

/-- Is the operation done: none: it can't be told. -/
def guardB (ops : Array Oper) (t : List AV) (o : Oper) : Option Bool := match o.guard with
  | none => some true
  | some (j, w) => match (ops[j]?).bind (·.dst) with
    | some d => match t.getD d .dead with
      | .bool b => some (bif w then b else !b)
      | .tup _ => some false
      | _ => none
    | none => none

/-- Does a later operation wait for what this one yields. -/
def asked (ops : Array Oper) (i : Nat) : Bool := ops.toList.any fun o => match o.guard with
  | some (j, _) => j == i
  | none => false

/-- A bool that is asked for is told apart. -/
def split {R : Type} (c : Bool) (v : AV) (k : AV → Option R) : Option R := match c with
  | false => k v
  | true => match v with
    | .bool b => bif b then k (.bool true) else k (.bool false)
    | v => k v

/-- Either of two, if they are one. -/
noncomputable def anyR {R : Type} (x y : Option R) : Option R := open Classical in if x = y then x else none

/-- No elements in it. -/
def isEmptyV (m : Rows) : AV → Option Bool
  | .imm _ xs => some xs.isEmpty
  | .nils _ => some true
  | .own r _ => match look m r with
    | some ⟨_, _, .list _ xs⟩ => some xs.isEmpty
    | _ => none
  | .sl r _ _ n => match look m r with
    | some _ => some (Nat.ble n 0)
    | none => none
  | _ => none

/-- A slice held against nil: is it empty; what the answer is if it is nil. -/
def nilCmp (P : Program) (t : List AV) (m : Rows) (o : Oper) : Option (Bool × Bool) := match o.op with
  | .binOp op xt x (.const (.slice none 0 0)) _ => match P.underlying xt, evO P t xt x with
    | some (.slice _), some v => match op with
      | .eql => (isEmptyV m v).map fun e => (e, true)
      | .neq => (isEmptyV m v).map fun e => (e, false)
      | _ => none
    | _, _ => none
  | _ => none

noncomputable def runOps {R : Type} (cx : Cx) (ops : Array Oper) (nx : Nat) (kp : AV → List AV → Rows → Option R) : Nat → List Oper → List AV → Rows → (List AV → Rows → Option R) → Option R
  | _, [], t, m, k => k t m
  | i, o :: r, t, m, k => match guardB ops t o with
    | none => none
    | some g => bif g then (match nilCmp cx.P t m o with
        | some (e, b) => bif e then anyR (runOps cx ops nx kp (i + 1) r (putT t o.dst (.bool b)) m k) (runOps cx ops nx kp (i + 1) r (putT t o.dst (.bool !b)) m k)
          else runOps cx ops nx kp (i + 1) r (putT t o.dst (.bool !b)) m k
        | none => (adel cx o (nx + 64 * i) t m).run (fun d => split (asked ops i) d.v fun v => runOps cx ops nx kp (i + 1) r (putT t o.dst v) (upR m d.up) k) fun d => bif mayP o.op then kp d.v t (upR m d.up) else none)
      else runOps cx ops nx kp (i + 1) r (putT t o.dst (.tup [])) m k

/-- A variable that is made, whenever. -/
def freeB (cx : Cx) (ops : Array Oper) (nx k : Nat) : Bool := match ops[k]? with
  | some o => match o.guard, o.op with
    | none, .alloc _ => match (adel cx o (nx + 64 * k) [] []).get with
      | some d => d.rd.isEmpty && d.up.all fun p => Nat.ble (nx + 64 * k) p.1 && Nat.blt p.1 (nx + 64 * k + 64)
      | none => false
    | _, _ => false
  | none => false

/-- All that follows waits for it, or only makes a variable. -/
def waits (cx : Cx) (ops : Array Oper) (bf : Array Nat) (nx i : Nat) : Bool := (List.range ops.size).all fun k => Nat.ble k i || ((bf.getD k 0).testBit i || freeB cx ops nx k)

/-- The last that is put of a row. -/
def lastU : List (Nat × Option Row) → Nat → Option (Option Row)
  | [], _ => none
  | (q, x) :: u, r => match lastU u r with
    | some y => some y
    | none => if q = r then some x else none

/-- Which list, or map, it is: the same, as far as that can be seen. -/
def litEq : AV → AV → Bool
  | .own a b, .own c d => Nat.beq a c && Nat.beq b d
  | .nils a, .nils b => Nat.beq a b
  | .oref .map a, .oref .map b => Nat.beq a b
  | _, _ => false

/-- A load, done ahead, finds the same behind what the other did to the row. -/
def loadKeeps (P : Program) (o : Oper) (u rd : List Nat) (v : AV) (e : Dl) : Bool := match o.op, rd with
  | .load t _, [r, i, sz, j] => u.isEmpty && match lastU e.up r with
    | some (some row) => match row.c with
      | .cells _ => Nat.beq (1000000000 + row.sz) sz && (Nat.ble (j - 1000000000 + P.cellsOf t) row.sz && match (loadOut P t [] (((row.at (i - 1000000000)).drop (j - 1000000000)).take (P.cellsOf t))).get with
        | some d => litEq d.v v
        | none => false)
      | _ => false
    | _ => false
  | .nilCheck _, [r] => u.isEmpty && match lastU e.up r with
    | some (some _) => true
    | _ => false
  | .fieldAddr _ _ _, [r] => u.isEmpty && match lastU e.up r with
    | some (some _) => true
    | _ => false
  | _, _ => false

/-- What a region's operations put is forgotten. -/
def killL : List Oper → List AV → List AV
  | [], t => t
  | o :: l, t => killL l (putT t o.dst .dead)

/-- As runOps; what is done in whatever order is looked at, too. -/
def runDraw {R : Type} (cx : Cx) (ops : Array Oper) (bf : Array Nat) (nx : Nat) (kp : AV → List AV → Rows → Option R) : Nat → List Oper → List (Nat × List Nat × List Nat × AV) → List AV → Rows → (List AV → Rows → Option R) → Option R
  | _, [], _, t, m, k => k t m
  | i, o :: r, log, t, m, k => match guardB ops t o with
    | none => none
    | some g => bif g then (adel cx o (nx + 64 * i) t m).run (fun d =>
        let u := d.up.map (·.1)
        bif log.all (fun p => (bf.getD i 0).testBit p.1 || ((disj p.2.1 u && (disj p.2.1 d.rd && disj p.2.2.1 u)) || loadKeeps cx.P (ops.getD p.1 default) p.2.1 p.2.2.1 p.2.2.2 d)) then
          split (asked ops i) d.v fun v => runDraw cx ops bf nx kp (i + 1) r (log ++ [(i, u, d.rd, d.v)]) (putT t o.dst v) (upR m d.up) k else none)
        fun d => bif mayP o.op && (waits cx ops bf nx i && log.all fun p => (bf.getD i 0).testBit p.1 || p.2.1.isEmpty) then kp d.v (killL ops.toList t) (upR m d.up) else none
      else runDraw cx ops bf nx kp (i + 1) r log (putT t o.dst (.tup [])) m k

/-- The temporaries that unordered operations use are apart. -/
def apartOK (ops : Array Oper) (bf : Array Nat) : Bool :=
  ((List.range ops.size).all fun j => ((ops.getD j default).after.all fun e => !Region.binds .any e || decide (e.on < j))) &&
  (List.range ops.size).all fun j => (List.range j).all fun i => (bf.getD j 0).testBit i || (ops.getD i default).apart ops (ops.getD j default)

def keepL : Nat → List Nat → List AV → List AV
  | _, _, [] => []
  | i, [], _ :: l => .dead :: keepL (i + 1) [] l
  | i, q :: ks, x :: l => if q = i then x :: keepL (i + 1) ks l else .dead :: keepL (i + 1) (q :: ks) l

/-- As reach; what is no row is passed over. -/
def reachD (m : Rows) : Nat → List Nat → List Nat → List Nat
  | 0, _, seen => seen
  | _, [], seen => seen
  | n + 1, r :: q, seen => if seen.contains r then reachD m n q seen else match look m r with
    | some row => reachD m n (q ++ row.c.refs) (seen ++ [r])
    | none => reachD m n q seen

def renN (mm : Nat) (l : List Nat) (r : Nat) : Option Nat := if r < mm then some r else (idx l r).map (mm + ·)

/-- What is kept: names from mm on are given anew. -/
def norm (mm : Nat) (keep : List Nat) (st : St) : St :=
  let t := keepL 0 keep st.t
  let all := reachD st.m 200 (List.range mm ++ AV.refsL t) []
  let l := all.filter fun r => !decide (r < mm)
  let f := renN mm l
  ⟨AV.renL f t, rowsAt st.m f 0 (List.range mm) ++ rowsAt st.m f mm l, mm + l.length⟩

def iter {R : Type} : Nat → (St → (Exit → St → Option R) → Option R) → St → (Exit → St → Option R) → Option R
  | 0, _, _, _ => none
  | n + 1, b, st, k => b st fun e st' => match e with
    | .normal => iter n b st' k
    | e => k e st'

/-- What is known of a part of the code. -/
structure LR where
  Y : Type
  o : Option Y
  g : (R : Type) → Y → (Exit → St → Option R) → Option R

structure Ann where
  cx : Cx
  /-- which function it is; a round of which range (0: none) -/
  fn : FuncId := 0
  inr : Bool := false
  /-- of a range: the temporaries that its rounds know, how it may be left -/
  rk : Nat → List Nat := fun _ => []
  rx : Nat → List Nat := fun _ => []
  mm : Nat
  fuel : Nat
  /-- parts that are told by a table: their keys, and the temporaries that are kept ahead of them -/
  tab : List (Nat × List Nat)
  /-- what is kept behind them -/
  xk : Nat → Exit → List Nat
  L : Nat → St → Option LR

def tabAt : List (Nat × List Nat) → Nat → Option (List Nat)
  | [], _ => none
  | (k, v) :: l, i => if k = i then some v else tabAt l i

def viaTab {R : Type} (A : Ann) (i : Nat) (st : St) (k : Exit → St → Option R) (d : Option R) : Option R := match tabAt A.tab i with
  | none => d
  | some keep => match A.L i (norm A.mm keep st) with
    | some ⟨_, o, g⟩ => o.bind fun y => g R y k
    | none => none

def exOf : Nat → Option Exit
  | 0 => some .normal
  | 1 => none
  | 2 => some .ret
  | n + 3 => some (.exit n)

/-- How a range was left. -/
def rangeOut {R : Type} (k : Exit → Option R) (st : Nat) : List Nat → Option R
  | [] => none
  | i :: l => bif Nat.beq st i then (match exOf i with
    | some e => k e
    | none => none) else rangeOut k st l

/-- How many loops stand one in the other at the very beginning. -/
def hdl : Code → Nat
  | .seq a _ => hdl a
  | .block _ c => hdl c
  | .loop c => hdl c + 1
  | .cond _ x _ => hdl x
  | _ => 0
/-- A loop's key. -/
def lk (c : Code) : Nat := 2 * (fid c + 10000 * hdl c)

noncomputable def aexec {R : Type} (A : Ann) : Code → St → (Exit → St → Option R) → Option R
  | .skip, st, k => k .normal st
  | .region _ ops draw, st, k => match draw with
    | false => runOps A.cx ops st.nx (fun v t m => k (.panic []) ⟨v :: t, m, st.nx + 64 * ops.size⟩) 0 ops.toList st.t st.m fun t m => k .normal ⟨t, m, st.nx + 64 * ops.size⟩
    | true => bif apartOK ops (Region.before ops) then
        runDraw A.cx ops (Region.before ops) st.nx (fun v t m => k (.panic []) ⟨v :: t, m, st.nx + 64 * ops.size⟩) 0 ops.toList [] st.t st.m fun t m => k .normal ⟨t, m, st.nx + 64 * ops.size⟩
      else none
  | .seq a b, st, k => aexec A a st fun e st' => match e with
    | .normal => viaTab A (2 * fid b + 1) st' k (aexec A b st' k)
    | e => k e st'
  | .cond c x y, st, k => match evO A.cx.P st.t 0 c with
    | some (.bool b) => bif b then aexec A x st k else aexec A y st k
    | _ => none
  | .block id c, st, k => aexec A c st fun e st' => match e with
    | .exit i => if i = id then k .normal st' else k (.exit i) st'
    | e => k e st'
  | .loop c, st, k => viaTab A (lk c) st k (iter A.fuel (aexec A c) st k)
  | .exit id, st, k => k (.exit id) st
  | .ret, st, k => k .ret st
  | .rangeFunc g _ assign body, st, k => match A.inr, evO A.cx.P st.t 0 g with
    | false, some (.fn f cap) =>
      let id := rid A.fn (lkey assign body)
      let m1 := putR st.m st.nx ⟨0, 1, .loop id 0 (keepL 0 (A.rk id) st.t)⟩
      bif fnB id || (!fnB f || isSame A.cx.P f) then none else (opCall A.cx m1 (st.nx + 1) f (.oref .yield st.nx :: cap)).run (fun d =>
        match look (upR m1 d.up) st.nx with
        | some ⟨_, _, .loop _ s _⟩ => rangeOut (fun e => k e ⟨st.t, delR (upR m1 d.up) st.nx, st.nx + 128⟩) s (A.rx id)
        | _ => none) fun _ => none
    | _, _ => none
  | _, _, _ => none

/-- What is kept behind a part. -/
def kn {R : Type} (A : Ann) (i : Nat) (k : Exit → St → Option R) : Exit → St → Option R := fun e s => k e (norm A.mm (A.xk i e) s)

/-- The parts of a code that a table may tell. -/
def cuts : Code → List Nat
  | .seq a b => (2 * fid b + 1) :: (cuts a ++ cuts b)
  | .loop c => lk c :: cuts c
  | .cond _ x y => cuts x ++ cuts y
  | .block _ c => cuts c
  | _ => []

def findCut (i : Nat) : Code → Option Code
  | .seq a b => if 2 * fid b + 1 = i then some b else match findCut i a with
    | some p => some p
    | none => findCut i b
  | .loop c => if lk c = i then some c else findCut i c
  | .cond _ x y => match findCut i x with
    | some p => some p
    | none => findCut i y
  | .block _ c => findCut i c
  | _ => none

/-- The part of a function that has this key. -/
def piece (fn : Func) (i : Nat) : Code := match fn.body with
  | some c => (findCut i c).getD .skip
  | none => .skip

/-- What comes out: results, and the rows that they and the arguments name. -/
def resV (P : Program) (m : Rows) (t : List AV) : List ResultVar → Option (List AV)
  | [] => some []
  | .tmp i :: l => (resV P m t l).map (t.getD i .dead :: ·)
  | .cell i ty :: l => match (opLoad P m ty (t.getD i .dead)).get, resV P m t l with
    | some d, some r => some (d.v :: r)
    | _, _ => none

def tupV : List AV → AV
  | [v] => v
  | l => .tup l

def finish (P : Program) (mm : Nat) (fz : Bool) (fn : Func) (st : St) : Option (AV × Rows) := match resV P st.m st.t fn.results.toList with
  | some vs => match (if fz then (AV.lent P st.m 5 (tupV vs)).map (fun p => (p.1, delAll st.m p.2)) else some (tupV vs, st.m)) with
    | some (v, m) =>
      let all := reachD m 200 (List.range mm ++ v.refs) []
      let l := all.filter fun r => !decide (r < mm)
      let f := renN mm l
      some (v.ren f, rowsAt m f 0 (List.range mm) ++ rowsAt m f mm l)
    | none => none
  | none => none
where
  delAll : Rows → List Nat → Rows
    | m, [] => m
    | m, r :: l => delAll (delR m r) l

/-- A round's state is put. -/
def putSt (m : Rows) (q s0 s : Nat) : Option Rows := match look m q with
  | some ⟨e, sz, .loop id s1 l⟩ => bif Nat.beq s1 s0 then some (putR m q ⟨e, sz, .loop id s l⟩) else none
  | _ => none

def stOf : Exit → Option Nat
  | .normal => some 0
  | .ret => some 2
  | .exit i => some (3 + i)
  | _ => none

/-- What comes of a round. -/
def finishR (mm q : Nat) (e : Exit) (st : St) : Option (Bool × AV × Rows) := match stOf e with
  | some s => match putSt st.m q 1 s with
    | some m =>
      let all := reachD m 200 (List.range mm ++ []) []
      let l := all.filter fun r => !decide (r < mm)
      let f := renN mm l
      some (false, .bool (Nat.beq s 0), rowsAt m f 0 (List.range mm) ++ rowsAt m f mm l)
    | none => none
  | none => none

def setAll : List AV → List Nat → List AV → List AV
  | t, p :: ps, x :: xs => setAll (t.set p x) ps xs
  | t, _, _ => t

/-- The arguments of a round: those of the function, and the range. -/
def splitY : List AV → Option (List AV × Nat)
  | [] => none
  | [.oref .yield q] => some ([], q)
  | x :: l => match splitY l with
    | some (r, q) => some (x :: r, q)
    | none => none

/-- A round. -/
noncomputable def around (A : Ann) (id : Nat) (avs : List AV) (m : Rows) : Option (Bool × AV × Rows) := match splitY avs, LA id with
  | some (args, q), some (ps, assign, body) => match look m q with
    | some ⟨_, _, .loop id' s l⟩ => bif Nat.beq id' id && (Nat.beq args.length ps.size && (Nat.blt q A.mm && Nat.ble A.mm m.length)) then bif Nat.beq s 0 then
        aexec A assign ⟨setAll l ps.toList args, m, m.length⟩ fun e st => match e with
          | .normal => match putSt st.m q 0 1 with
            | some m1 => aexec A body ⟨st.t, m1, st.nx⟩ fun e st => finishR A.mm q e st
            | none => none
          | _ => none
        else none else none
    | _ => none
  | _, _ => none

/-- What a panic bears, out of the function. -/
def finishP (mm : Nat) (st : St) : Option (AV × Rows) := match st.t with
  | v :: _ =>
    let all := reachD st.m 200 (List.range mm ++ v.refs) []
    let l := all.filter fun r => !decide (r < mm)
    let f := renN mm l
    some (v.ren f, rowsAt st.m f 0 (List.range mm) ++ rowsAt st.m f mm l)
  | _ => none

def tagR (p : Bool) : Option (AV × Rows) → Option (Bool × AV × Rows)
  | some (v, m) => some (p, v, m)
  | none => none

noncomputable def acall (A : Ann) (fz : Bool) (fn : Func) (avs : List AV) (m : Rows) : Option (Bool × AV × Rows) := bif !Nat.ble A.mm m.length then none else match fn.body with
  | some c => aexec A c ⟨avs ++ List.replicate (fn.ntmps - avs.length) .dead, m, m.length⟩ fun e st => match e with
    | .normal => tagR false (finish A.cx.P A.mm fz fn st)
    | .ret => tagR false (finish A.cx.P A.mm fz fn st)
    | .panic _ => tagR true (finishP A.mm st)
    | _ => none
  | none => none
end Go.Proofs.YtfogafinohfpfaaGreatDoorV
