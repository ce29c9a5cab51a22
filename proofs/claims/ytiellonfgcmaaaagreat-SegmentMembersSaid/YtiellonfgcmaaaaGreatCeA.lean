/- The abstract evaluator 'Ce': definitions alone. It carries out the model's Code on abstract values (names for blocks, a lower bound for a slice's capacity), in the order of the text. The texts behind it prove that every run of the model, in whatever world and whatever order it draws, does the same. Written for the kernel's evaluation: recursors outright, little in each branch. -/
import Derived.OrdersIn
import Derived.RangeFuncLeaves
import GoSem.Extern.BytealgCompare
set_option linter.unusedVariables false
set_option linter.unusedSimpArgs false
set_option linter.unusedSectionVars false
namespace Go.Ce

/-- A finite map on numbers, by the bits of the number. -/
inductive Tr (α : Type) where
  | e
  | l (k : Nat) (v : α)
  | n (a b : Tr α)

noncomputable def Tr.find {α : Type} (t : Tr α) : Nat → Nat → Option α :=
  Tr.rec (motive := fun _ => Nat → Nat → Option α) (fun _ _ => none) (fun k' v _ k => Bool.rec none (some v) (Nat.beq k' k))
    (fun _ _ fa fb p k => Bool.rec (fb (Nat.div p 2) k) (fa (Nat.div p 2) k) (Nat.beq (Nat.mod p 2) 0)) t

noncomputable def Tr.put {α : Type} (lf : Tr α) (d : Nat) : Tr α → Nat → Tr α :=
  Nat.rec (motive := fun _ => Tr α → Nat → Tr α) (fun _ _ => lf)
   (fun _ ih t p => Tr.rec (motive := fun _ => Tr α)
      (Bool.rec (.n .e (ih .e (Nat.div p 2))) (.n (ih .e (Nat.div p 2)) .e) (Nat.beq (Nat.mod p 2) 0))
      (fun _ _ => Bool.rec (.n .e (ih .e (Nat.div p 2))) (.n (ih .e (Nat.div p 2)) .e) (Nat.beq (Nat.mod p 2) 0))
      (fun a b _ _ => Bool.rec (motive := fun _ => Tr α)
        (Tr.rec (motive := fun _ => Tr α) (.n a .e) (fun k v => .n a (.l k v)) (fun x y _ _ => .n a (.n x y)) (ih b (Nat.div p 2)))
        (Tr.rec (motive := fun _ => Tr α) (.n .e b) (fun k v => .n (.l k v) b) (fun x y _ _ => .n (.n x y) b) (ih a (Nat.div p 2))) (Nat.beq (Nat.mod p 2) 0)) t) d

noncomputable def Tr.get {α : Type} (t : Tr α) (k : Nat) : Option α := t.find k k
noncomputable def Tr.ins {α : Type} (d : Nat) (t : Tr α) (k : Nat) (v : α) : Tr α := Tr.put (.l k v) d t k
noncomputable def Tr.del {α : Type} (d : Nat) (t : Tr α) (k : Nat) : Tr α := Tr.put .e d t k

noncomputable def Tr.keys {α : Type} (t : Tr α) : List Nat → List Nat :=
  Tr.rec (motive := fun _ => List Nat → List Nat) (fun acc => acc) (fun k _ acc => k :: acc) (fun _ _ fa fb acc => fa (fb acc)) t

noncomputable def Tr.vals {α : Type} (t : Tr α) : List α → List α :=
  Tr.rec (motive := fun _ => List α → List α) (fun acc => acc) (fun _ v acc => v :: acc) (fun _ _ fa fb acc => fa (fb acc)) t

/-- Evaluate a map to its head, then go on. -/
noncomputable def Tr.force {α β : Type} (t : Tr α) (f : Tr α → β) : β := Tr.casesOn t (f .e) (fun k v => f (.l k v)) (fun a b => f (.n a b))

inductive R (α : Type) where
  | ok (a : α)
  | no (c : Nat)

noncomputable def R.bind {α β : Type} (r : R α) (f : α → R β) : R β := R.rec (motive := fun _ => R β) f R.no r

/-- Abstract values. 'n': a block's name; 'o': a place in it. -/
inductive AV where
  | junk
  | bool (b : Bool)
  | int (k : IntKind) (n : Int)
  | str (l : List UInt8)
  | ptr (n o : Nat)
  | nilPtr
  /-- 'lb': the capacity is at least this; 'ex': it is just this; 'es': an element's cells. -/
  | slice (n o len lb : Nat) (ex : Bool) (es : Nat)
  | nilSlice
  /-- A slice that is not nil, of length 0, wherever. -/
  | emptySlice
  | map (n : Nat)
  | nilMap
  | func (fn : Fn) (first captured : List AV)
  | yield (n : Nat)
  | nilFunc
  | iface (t : TypeId) (v : AV)
  | nilIface
  | agg (l : List AV)
  | tup (l : List AV)

/-- The temporaries of the region that was walked last, the newest first. -/
inductive Lo where
  | nil
  | cons (t : Nat) (v : AV) (r : Lo)

inductive AB where
  | cells (elem : TypeId) (l : List AV)
  | map (es : List (AV × AV × Nat)) (clock : Nat)
  | strIter (s : List UInt8) (pos : Nat)
  | loop (st : LoopState) (pend : Option Code) (fn : FuncId) (km : Nat) (T : Tr AV) (nt : Nat) (params : Array Tmp) (assign body : Code) (df : Nat)
  | defd
  /-- A range over the map m, begun at its clock 'since'; 'seen': what it has met, the newest first. -/
  | mapIter (m : Nat) (since : Nat) (seen : List Nat)
  | nilIter

/-- A block and how often it has been written. -/
structure Blk where
  v : Nat
  b : AB

abbrev Hp := Tr Blk

/-- What waits for the end of a function: a mark (a range over a function's block), a deferred call. -/
inductive DE where
  | mark (n : Nat)
  | call (f : FuncId) (args : List AV)
  /-- In a deferred call: the panic that it may recover. -/
  | pan (v : AV)

structure St where
  L : Lo
  T : Tr AV
  D : List DE
  H : Hp
  x : Nat

inductive AE where
  | normal
  | exit (id : Nat)
  | ret
  | pan (v : AV)

/-- 'ro': in a round of which loop; 'km': the temporaries that are wanted in other regions than their own, as bits. -/
structure Ctx where
  ro : Option Nat
  /-- in a deferred call that calls 'recover', of a function that does not panic -/
  rv : Bool
  fn : FuncId
  nt : Nat
  km : Nat

/-- What an operation leaves: a value, the heap, the next name; a panic; one of several. -/
inductive O3 where
  | ok (v : AV) (H : Hp) (x : Nat)
  | no (c : Nat)
  | pan (v : AV) (H : Hp) (x : Nat)
  | or (l : List (AV × Hp × Nat))

/-- The depth of the heap's map, and of a map of n temporaries. -/
def dH : Nat := 12
def dT (nt : Nat) : Nat := Nat.succ (Nat.log2 nt)

/-! ### Values -/

def ofVal0 : Value → AV
  | .bool b => .bool b
  | .int k n => .int k n
  | .string s => .str s.data.toList
  | .pointer none => .nilPtr
  | .slice none 0 0 => .nilSlice
  | .map none => .nilMap
  | .nilFunc => .nilFunc
  | .nilIface => .nilIface
  | _ => .junk

def ofVal : Value → AV
  | .agg cs => .agg (cs.toList.map ofVal0)
  | .tuple vs => .tup (vs.toList.map ofVal0)
  | v => ofVal0 v

def AV.cells : AV → List AV
  | .agg l => l
  | v => [v]

def AV.isJunk : AV → Bool
  | .junk => true
  | _ => false

/-- What a cell may hold. -/
def AV.plain : AV → Bool
  | .junk | .agg _ | .tup _ => false
  | _ => true

noncomputable def allPlain (l : List AV) : Bool := List.rec true (fun v _ ih => Bool.rec false ih v.plain) l
noncomputable def lookL (L : Lo) : Nat → Option AV := Lo.rec (motive := fun _ => Nat → Option AV) (fun _ => none) (fun k v _ ih t => Bool.rec (ih t) (some v) (Nat.beq k t)) L

noncomputable def orJunk (o : Option AV) : AV := Option.rec (motive := fun _ => AV) .junk (fun v => v) o
noncomputable def getT (L : Lo) (T : Tr AV) (t : Nat) : AV := Option.rec (motive := fun _ => AV) (orJunk (T.find t t)) (fun v => v) (lookL L t)

noncomputable def evalT (L : Lo) (T : Tr AV) (o : Operand) : AV := Operand.rec (motive := fun _ => AV) (getT L T) ofVal (fun _ => .junk) (fun f => .func (.func f) [] []) o

/-! ### Lists -/

noncomputable def takeS (n : Nat) : List AV → R (List AV) :=
  Nat.rec (motive := fun _ => List AV → R (List AV)) (fun _ => .ok []) (fun _ ih l => List.rec (motive := fun _ => R (List AV)) (.no 1) (fun a t _ => R.casesOn (ih t) (fun r => .ok (a :: r)) .no) l) n
noncomputable def dropS (n : Nat) : List AV → List AV :=
  Nat.rec (motive := fun _ => List AV → List AV) (fun l => l) (fun _ ih l => List.rec (motive := fun _ => List AV) [] (fun _ t _ => ih t) l) n
noncomputable def set0 (vs : List AV) : List AV → R (List AV) :=
  List.rec (motive := fun _ => List AV → R (List AV)) (fun l => .ok l)
    (fun v _ ih l => List.rec (motive := fun _ => R (List AV)) (.no 3) (fun _ t _ => R.casesOn (ih t) (fun r => .ok (v :: r)) .no) l) vs
noncomputable def setS (n : Nat) (vs : List AV) : List AV → R (List AV) :=
  Nat.rec (motive := fun _ => List AV → R (List AV)) (fun l => set0 vs l)
    (fun _ ih l => List.rec (motive := fun _ => R (List AV)) (.no 4) (fun a t _ => R.casesOn (ih t) (fun r => .ok (a :: r)) .no) l) n
noncomputable def appS (l m : List AV) : List AV := List.rec m (fun a _ ih => a :: ih) l
noncomputable def repS (n : Nat) (z : List AV) : List AV → List AV := Nat.rec (motive := fun _ => List AV → List AV) (fun acc => acc) (fun _ ih acc => ih (appS z acc)) n
noncomputable def lenS (l : List AV) : Nat → Nat := List.rec (motive := fun _ => Nat → Nat) (fun n => n) (fun _ _ ih n => ih (Nat.succ n)) l
noncomputable def bytesEq (l : List UInt8) : List UInt8 → Bool :=
  List.rec (motive := fun _ => List UInt8 → Bool) (fun m => List.rec true (fun _ _ _ => false) m)
    (fun a _ ih m => List.rec false (fun b t _ => Bool.rec false (ih t) (Nat.beq a.toNat b.toNat)) m) l
noncomputable def bytesLt (l : List UInt8) : List UInt8 → Bool :=
  List.rec (motive := fun _ => List UInt8 → Bool) (fun m => List.rec false (fun _ _ _ => true) m)
    (fun a _ ih m => List.rec false (fun b t _ => Bool.rec (Bool.rec false (ih t) (Nat.beq a.toNat b.toNat)) true (Nat.blt a.toNat b.toNat)) m) l
noncomputable def intsOf (l : List UInt8) : List AV := List.rec [] (fun b _ ih => .int .u8 (Int.ofNat b.toNat) :: ih) l
noncomputable def dropB (n : Nat) : List UInt8 → List UInt8 :=
  Nat.rec (motive := fun _ => List UInt8 → List UInt8) (fun l => l) (fun _ ih l => List.rec (motive := fun _ => List UInt8) [] (fun _ t _ => ih t) l) n
noncomputable def takeB (n : Nat) : List UInt8 → List UInt8 :=
  Nat.rec (motive := fun _ => List UInt8 → List UInt8) (fun _ => []) (fun _ ih l => List.rec (motive := fun _ => List UInt8) [] (fun a t _ => a :: ih t) l) n

noncomputable def subS (o n : Nat) (l : List AV) : R (List AV) := takeS n (dropS o l)

noncomputable def byteOf : AV → R UInt8
  | .int .u8 (.ofNat n) => .ok (UInt8.ofNat n)
  | _ => .no 5

noncomputable def bytesOf (l : List AV) : R (List UInt8) :=
  List.rec (motive := fun _ => R (List UInt8)) (.ok []) (fun v _ ih => R.casesOn (byteOf v) (fun b => R.casesOn ih (fun r => .ok (b :: r)) .no) .no) l

/-! ### Types -/

def aggD : TypeDesc → Bool
  | .struct _ => true
  | .array _ _ => true
  | _ => false

def isAggA (P : Program) (t : TypeId) : R Bool :=
  match P.underlying t with
  | some d => .ok (aggD d)
  | none => .no 19

def sizeA (P : Program) (t : TypeId) : R Nat := match P.info? t with | some i => .ok i.size | none => .no 6

def zeroA (P : Program) (t : TypeId) : R AV :=
  match P.info? t with
  | some i => match i.zero with | some v => .ok (ofVal v) | none => .no 7
  | none => .no 8

def elemA (P : Program) (t : TypeId) : R TypeId := match P.underlying t with | some (.slice e) => .ok e | _ => .no 65

/-! ### Integers -/

def maxI : IntKind → Nat
  | .i8 => 127 | .i16 => 32767 | .i32 => 2147483647 | .i64 => 9223372036854775807
  | .u8 => 255 | .u16 => 65535 | .u32 => 4294967295 | .u64 => 18446744073709551615
def minI : IntKind → Nat
  | .i8 => 128 | .i16 => 32768 | .i32 => 2147483648 | .i64 => 9223372036854775808
  | _ => 0

/-- The value of kind k that n wraps to. -/
noncomputable def wrapV (k : IntKind) (n : Int) : AV :=
  Int.casesOn n
    (fun m => Bool.casesOn (Nat.ble m (maxI k)) (.int k (k.wrap (.ofNat m))) (.int k (.ofNat m)))
    (fun m => Bool.casesOn (Nat.ble (Nat.succ m) (minI k)) (.int k (k.wrap (.negSucc m))) (.int k (.negSucc m)))

noncomputable def eqI (x y : Int) : Bool :=
  Int.casesOn x (fun a => Int.casesOn y (fun b => Nat.beq a b) (fun _ => false)) (fun a => Int.casesOn y (fun _ => false) (fun b => Nat.beq a b))

noncomputable def ltI (x y : Int) : Bool :=
  Int.casesOn x (fun a => Int.casesOn y (fun b => Nat.blt a b) (fun _ => false)) (fun a => Int.casesOn y (fun _ => true) (fun b => Nat.blt b a))

def beqK (a b : IntKind) : Bool :=
  match a, b with
  | .i8, .i8 | .i16, .i16 | .i32, .i32 | .i64, .i64 | .u8, .u8 | .u16, .u16 | .u32, .u32 | .u64, .u64 => true
  | _, _ => false

noncomputable def bitsA (op : BinOp) (k : IntKind) (x y : Int) : R AV :=
  match op with
  | .and => .ok (wrapV k (Int.ofNat (BitVec.ofInt k.bits x &&& BitVec.ofInt k.bits y).toNat))
  | .or => .ok (wrapV k (Int.ofNat (BitVec.ofInt k.bits x ||| BitVec.ofInt k.bits y).toNat))
  | .xor => .ok (wrapV k (Int.ofNat (BitVec.ofInt k.bits x ^^^ BitVec.ofInt k.bits y).toNat))
  | .andNot => .ok (wrapV k (Int.ofNat (BitVec.ofInt k.bits x &&& ~~~BitVec.ofInt k.bits y).toNat))
  | _ => .no 10

noncomputable def shlA (k : IntKind) (x y : Int) : R AV := Int.casesOn y (fun m => .ok (wrapV k (Int.mul x (Int.ofNat (Nat.pow 2 (min m k.bits)))))) (fun _ => .no 11)
noncomputable def shrA (k : IntKind) (x y : Int) : R AV := Int.casesOn y (fun m => .ok (.int k (Int.fdiv x (Int.ofNat (Nat.pow 2 (min m k.bits)))))) (fun _ => .no 12)

abbrev IntF := IntKind → Int → Int → R AV
noncomputable def iAdd : IntF := fun k x y => .ok (wrapV k (Int.add x y))
noncomputable def iSub : IntF := fun k x y => .ok (wrapV k (Int.sub x y))
noncomputable def iMul : IntF := fun k x y => .ok (wrapV k (Int.mul x y))
noncomputable def iQuo : IntF := fun k x y => bif eqI y 0 then .no 13 else .ok (wrapV k (Int.tdiv x y))
noncomputable def iRem : IntF := fun k x y => bif eqI y 0 then .no 14 else .ok (.int k (Int.tmod x y))
noncomputable def iEql : IntF := fun _ x y => .ok (.bool (eqI x y))
noncomputable def iNeq : IntF := fun _ x y => .ok (.bool (not (eqI x y)))
noncomputable def iLss : IntF := fun _ x y => .ok (.bool (ltI x y))
noncomputable def iLeq : IntF := fun _ x y => .ok (.bool (not (ltI y x)))
noncomputable def iGtr : IntF := fun _ x y => .ok (.bool (ltI y x))
noncomputable def iGeq : IntF := fun _ x y => .ok (.bool (not (ltI x y)))
def iNo : IntF := fun _ _ _ => .no 15

/-- On two integers of one kind (shifts aside). -/
noncomputable def intA (op : BinOp) : IntF :=
  BinOp.casesOn op iAdd iSub iMul iQuo iRem (bitsA .and) (bitsA .or) (bitsA .xor) iNo iNo (bitsA .andNot) iEql iNeq iLss iLeq iGtr iGeq

noncomputable def strA (op : BinOp) (x y : List UInt8) : R AV :=
  match op with
  | .add => bif Nat.ble (x.length + y.length) 1099511627776 then .ok (.str (x ++ y)) else .no 15
  | .eql => .ok (.bool (bytesEq x y))
  | .neq => .ok (.bool (!(bytesEq x y)))
  | .lss => .ok (.bool (bytesLt x y))
  | .leq => .ok (.bool (bytesLt x y || bytesEq x y))
  | .gtr => .ok (.bool (!(bytesLt x y || bytesEq x y)))
  | .geq => .ok (.bool (!(bytesLt x y)))
  | _ => .no 16

/-! ### Equality -/

noncomputable def headR (l : List AV) : R AV := List.casesOn l (.no 9) (fun v _ => .ok v)

/-- A part of type t at place o of a row of cells. -/
noncomputable def partA (P : Program) (t : TypeId) (o : Nat) (l : List AV) : R AV :=
  (isAggA P t).bind fun b => bif b then (sizeA P t).bind fun s => (subS o s l).bind fun r => .ok (.agg r) else headR (dropS o l)

noncomputable def eqFs (P : Program) (eq : TypeId → AV → AV → R Bool) : List Field → List AV → List AV → R Bool
  | [], _, _ => .ok true
  | f :: fs, xs, ys =>
    bif f.name == "_" then eqFs P eq fs xs ys else
    (partA P f.type f.offset xs).bind fun a => (partA P f.type f.offset ys).bind fun b => (eq f.type a b).bind fun r => bif r then eqFs P eq fs xs ys else .ok false

noncomputable def eqEs (P : Program) (eq : AV → AV → R Bool) (el : TypeId) (s : Nat) (xs ys : List AV) : Nat → Nat → R Bool
  | 0, _ => .ok true
  | n + 1, i =>
    (partA P el (i * s) xs).bind fun a => (partA P el (i * s) ys).bind fun b => (eq a b).bind fun r => bif r then eqEs P eq el s xs ys n (i + 1) else .ok false

noncomputable def eqPtr (P : Program) (el : TypeId) (n o m q : Nat) : R Bool := (sizeA P el).bind fun s => bif Nat.beq n m then bif Nat.beq s 0 then .no 25 else .ok (Nat.beq o q) else .no 25

noncomputable def eqA (P : Program) : Nat → TypeId → AV → AV → R Bool
  | 0, _, _, _ => .no 20
  | d + 1, t, x, y =>
    match P.underlying t with
    | some .bool => match x, y with | .bool a, .bool b => .ok (a == b) | _, _ => .no 21
    | some (.int _) => match x, y with | .int k a, .int k' b => bif beqK k k' then .ok (eqI a b) else .no 22 | _, _ => .no 23
    | some .string => match x, y with | .str a, .str b => .ok (bytesEq a b) | _, _ => .no 24
    | some (.pointer el) =>
      match x, y with
      | .nilPtr, .nilPtr => .ok true
      | .nilPtr, .ptr _ _ => .ok false
      | .ptr _ _, .nilPtr => .ok false
      | .ptr n o, .ptr m q => eqPtr P el n o m q
      | _, _ => .no 26
    | some (.interface _) =>
      match x, y with
      | .nilIface, .nilIface => .ok true
      | .nilIface, .iface _ _ => .ok false
      | .iface _ _, .nilIface => .ok false
      | .iface tx vx, .iface ty vy =>
        bif Nat.beq tx ty then
          match P.info? tx with
          | some i => bif i.comparable then eqA P d tx vx vy else .no 27
          | none => .no 28
        else .ok false
      | _, _ => .no 29
    | some (.struct fs) =>
      match x, y with
      | .agg xs, .agg ys => bif P.stoodInHeld t then .no 30 else eqFs P (eqA P d) fs.toList xs ys
      | _, _ => .no 31
    | some (.array len el) =>
      match x, y with
      | .agg xs, .agg ys => (sizeA P el).bind fun s => eqEs P (eqA P d el) el s xs ys len 0
      | _, _ => .no 32
    | some (.slice _) =>
      match x, y with
      | .nilSlice, .nilSlice => .ok true
      | .nilSlice, .slice .. => .ok false
      | .nilSlice, .emptySlice => .ok false
      | .slice .., .nilSlice => .ok false
      | .emptySlice, .nilSlice => .ok false
      | _, _ => .no 33
    | some (.map _ _) =>
      match x, y with
      | .nilMap, .nilMap => .ok true
      | .nilMap, .map _ => .ok false
      | .map _, .nilMap => .ok false
      | _, _ => .no 34
    | some (.func _ _ _) =>
      match x, y with
      | .nilFunc, .nilFunc => .ok true
      | .nilFunc, .func .. => .ok false
      | .func .., .nilFunc => .ok false
      | _, _ => .no 35
    | _ => .no 36

/-- The fuel of equality. -/
def dE : Nat := 64

def isConstOp : Operand → Bool
  | .const _ => true
  | _ => false

/-- What '==' asks ahead of itself: true where it lets the values by. -/
noncomputable def guardA (P : Program) (t : TypeId) (x y : Operand) (a b : AV) : Bool :=
  match a, b with
  | .nilIface, .nilIface => isConstOp x || isConstOp y
  | .agg _, .agg _ => !(P.eqGuardType P.depth t)
  | .junk, _ => false
  | _, .junk => false
  | _, _ => true

noncomputable def eqlA (P : Program) (t : TypeId) (xo yo : Operand) (x y : AV) : R Bool := bif guardA P t xo yo x y then eqA P dE t x y else .no 41

/-- On values that are no integers and no strings. -/
noncomputable def binO (P : Program) (op : BinOp) (t : TypeId) (xo yo : Operand) (x y : AV) : R AV :=
  match op with
  | .eql => (eqlA P t xo yo x y).bind fun b => .ok (.bool b)
  | .neq => (eqlA P t xo yo x y).bind fun b => .ok (.bool (!b))
  | _ => .no 43

def isShift : BinOp → Bool
  | .shl | .shr => true
  | _ => false

noncomputable def intB (op : BinOp) (k : IntKind) (a : Int) (k' : IntKind) (b : Int) : R AV :=
  bif isShift op then match op with | .shl => shlA k a b | _ => shrA k a b
  else bif beqK k k' then intA op k a b else .no 40

noncomputable def binA (P : Program) (op : BinOp) (t : TypeId) (xo yo : Operand) (x y : AV) : R AV :=
  match x with
  | .int k a => match y with
    | .int k' b => intB op k a k' b
    | _ => .no 44
  | .str a => match y with
    | .str b => strA op a b
    | _ => .no 44
  | x => binO P op t xo yo x y

noncomputable def unA (op : UnOp) (x : AV) : R AV :=
  match op, x with
  | .neg, .int k n => .ok (wrapV k (Int.sub 0 n))
  | .xor, .int k n => bitsA .xor k (if k.signed then -1 else k.max) n
  | .not, .bool b => .ok (.bool (!b))
  | _, _ => .no 44

/-! ### The heap -/

noncomputable def cellsOf (b : Option Blk) : R (List AV) :=
  match b with
  | some ⟨_, .cells _ l⟩ => .ok l
  | _ => .no 51

noncomputable def loadA (P : Program) (H : Hp) (t : TypeId) (a : AV) : R AV :=
  match a with
  | .ptr n o => (cellsOf (H.get n)).bind fun l => partA P t o l
  | _ => .no 52

noncomputable def writeB (H : Hp) (n o : Nat) (vs : List AV) (b : Option Blk) : R Hp :=
  match b with
  | some ⟨v, .cells el l⟩ => (setS o vs l).bind fun l' => .ok (H.ins dH n ⟨Nat.succ v, .cells el l'⟩)
  | _ => .no 51

noncomputable def writeA (H : Hp) (n o : Nat) (vs : List AV) : R Hp := writeB H n o vs (H.get n)

noncomputable def storeV (P : Program) (H : Hp) (t : TypeId) (n o : Nat) (x : AV) : R Hp :=
  bif x.isJunk then .no 53 else
  (sizeA P t).bind fun s => bif Nat.beq (lenS x.cells 0) s then bif allPlain x.cells then writeA H n o x.cells else .no 54 else .no 55

noncomputable def storeA (P : Program) (H : Hp) (t : TypeId) (a x : AV) : R Hp :=
  match a with
  | .ptr n o => storeV P H t n o x
  | _ => .no 56

/-- A new block. -/
noncomputable def newB (H : Hp) (x : Nat) (b : AB) : Hp := H.ins dH x ⟨0, b⟩

/-! ### Composite values -/

noncomputable def fill1 (o s : Nat) (v : AV) (cells : List AV) : R (List AV) :=
  bif v.isJunk then .no 61 else bif Nat.beq (lenS v.cells 0) s then setS o v.cells cells else .no 62

noncomputable def fillA (place : Nat → Option (Nat × Nat)) (cells : List AV) : List (Nat × AV) → R (List AV)
  | [] => .ok cells
  | (i, v) :: rest =>
    match place i with
    | none => .no 60
    | some (o, s) => (fill1 o s v cells).bind fun c => fillA place c rest

noncomputable def placesA (P : Program) : List Field → R (List (Nat × Nat))
  | [] => .ok []
  | f :: fs => (sizeA P f.type).bind fun s => (placesA P fs).bind fun r => .ok ((f.offset, s) :: r)

noncomputable def buildIn (P : Program) (t : TypeId) (z : AV) (parts : List (Nat × AV)) : R AV :=
  bif z.isJunk then .no 63 else
  match P.underlying t with
  | some (.struct fs) => (placesA P fs.toList).bind fun pl => (fillA (fun i => pl[i]?) z.cells parts).bind fun l => .ok (.agg l)
  | some (.array _ el) => (sizeA P el).bind fun s => (fillA (fun i => some (i * s, s)) z.cells parts).bind fun l => .ok (.agg l)
  | _ => .no 64

noncomputable def buildA (P : Program) (t : TypeId) (parts : List (Nat × AV)) : R AV := (zeroA P t).bind fun z => buildIn P t z parts

noncomputable def sliceCells (s : Nat) (z : AV) (len : Nat) (parts : List (Nat × AV)) : R (List AV) :=
  bif z.isJunk then .no 66 else
  bif Nat.beq (lenS z.cells 0) s then fillA (fun i => some (i * s, s)) (repS len z.cells []) parts else .no 67

noncomputable def toO (H : Hp) (x : Nat) (r : R AV) : O3 := R.rec (motive := fun _ => O3) (fun v => .ok v H x) .no r
noncomputable def toU (x : Nat) (r : R Hp) : O3 := R.casesOn r (fun H => .ok .junk H x) .no
/-- A new block of cells, and what is made of its name. -/
noncomputable def toN (H : Hp) (x : Nat) (el : TypeId) (v : AV) (r : R (List AV)) : O3 := R.casesOn r (fun l => .ok v (newB H x (.cells el l)) (Nat.succ x)) .no

noncomputable def buildSliceA (P : Program) (H : Hp) (x : Nat) (t : TypeId) (len : Nat) (parts : List (Nat × AV)) : O3 :=
  R.casesOn (elemA P t) (fun el => R.casesOn (sizeA P el) (fun s =>
    bif Nat.ble (len * s) 16777216 then toN H x el (.slice x 0 len len true s) ((zeroA P el).bind fun z => sliceCells s z len parts) else .no 68) .no) .no

/-! ### Addresses -/

noncomputable def fieldOf (P : Program) (t : TypeId) (i : Nat) : R Field :=
  match P.underlying t with
  | some (.struct fs) => match fs[i]? with | some f => .ok f | none => .no 72
  | _ => .no 73

/-- The place of a field, where it takes room. -/
noncomputable def offOf (P : Program) (t : TypeId) (i : Nat) : R Nat :=
  (fieldOf P t i).bind fun f => (sizeA P f.type).bind fun s => bif Nat.beq s 0 then .no 70 else .ok f.offset

noncomputable def fieldAddrA (P : Program) (t : TypeId) (a : AV) (i : Nat) : R AV :=
  match a with
  | .ptr n o => (offOf P t i).bind fun d => .ok (.ptr n (Nat.add o d))
  | _ => .no 71

noncomputable def fieldA (P : Program) (t : TypeId) (a : AV) (i : Nat) : R AV :=
  match a with
  | .agg l => (fieldOf P t i).bind fun f => partA P f.type f.offset l
  | _ => .no 74

noncomputable def natOf (i : Int) : R Nat := Int.casesOn i (fun n => .ok n) (fun _ => .no 77)
noncomputable def idxOf (i : AV) : R Nat :=
  match i with
  | .int _ z => natOf z
  | _ => .no 83

def arrOf (P : Program) (t : TypeId) : R (Nat × TypeId) := match P.underlying t with | some (.array n e) => .ok (n, e) | _ => .no 82

noncomputable def indexAddrA (P : Program) (t : TypeId) (a i : AV) : R AV :=
  match a with
  | .slice n o len _ _ _ => (idxOf i).bind fun j => bif Nat.blt j len then (elemA P t).bind fun el => (sizeA P el).bind fun s => .ok (.ptr n (Nat.add o (Nat.mul j s))) else .no 80
  | .ptr n o => (idxOf i).bind fun j => (arrOf P t).bind fun q => bif Nat.blt j q.1 then (sizeA P q.2).bind fun s => .ok (.ptr n (Nat.add o (Nat.mul j s))) else .no 78
  | _ => .no 81

noncomputable def nthB (l : List UInt8) : Nat → Option UInt8 := List.rec (motive := fun _ => Nat → Option UInt8) (fun _ => none) (fun b _ ih n => Nat.rec (some b) (fun m _ => ih m) n) l

def isStr (P : Program) (t : TypeId) : Bool := match P.underlying t with | some .string => true | _ => false

noncomputable def indexA (P : Program) (t : TypeId) (a i : AV) : R AV :=
  match a with
  | .agg l => (idxOf i).bind fun j => (arrOf P t).bind fun q => bif Nat.blt j q.1 then (sizeA P q.2).bind fun s => partA P q.2 (Nat.mul j s) l else .no 84
  | .str l => bif isStr P t then (idxOf i).bind fun j => match nthB l j with | some b => .ok (.int .u8 (Int.ofNat b.toNat)) | none => .no 86 else .no 87
  | _ => .no 88

noncomputable def boundA (v : AV) (y : Nat) : R Nat := (idxOf v).bind fun i => bif Nat.ble i y then .ok i else .no 90

noncomputable def boundMax (mx : Option AV) (cap : Nat) : R Nat := match mx with | some v => boundA v cap | none => .ok cap
noncomputable def boundHigh (high mx : Option AV) (len m : Nat) : R Nat :=
  match high, mx with
  | some v, _ => boundA v m
  | none, none => .ok len
  | none, some _ => .no 92
noncomputable def boundLow (low : Option AV) (h : Nat) : R Nat := match low with | some v => boundA v h | none => .ok 0

/-- low, high and the bound of the capacity: 'cap' is what the bounds may reach. -/
noncomputable def boundsA (len cap : Nat) (low high mx : Option AV) : R (Nat × Nat × Nat) :=
  (boundMax mx cap).bind fun m => (boundHigh high mx len m).bind fun h => (boundLow low h).bind fun l => .ok (l, h, m)

noncomputable def subSlice (n o s : Nat) (exact : Bool) (b : Nat × Nat × Nat) : R AV :=
  bif Nat.ble b.1 b.2.2 then
    bif Nat.beq b.2.2 b.1 then bif exact then .ok (.slice n o (b.2.1 - b.1) 0 true s) else bif Nat.beq b.2.1 b.1 then .ok .emptySlice else .no 92
    else .ok (.slice n (o + b.1 * s) (b.2.1 - b.1) (b.2.2 - b.1) exact s)
  else .no 92

noncomputable def arrSliceA (P : Program) (H : Hp) (n o len : Nat) (el : TypeId) (low high mx : Option AV) : R AV :=
  (cellsOf (H.get n)).bind fun cs => (boundsA len len low high mx).bind fun b => (sizeA P el).bind fun s =>
    bif Nat.ble (o + len * s) (lenS cs 0) then subSlice n o s true b else .no 93

/-- A slice's element type, of a known size. -/
noncomputable def elemSz (P : Program) (t : TypeId) : R TypeId := (elemA P t).bind fun e => (sizeA P e).bind fun _ => .ok e

noncomputable def sliceA (P : Program) (H : Hp) (t : TypeId) (x : AV) (low high mx : Option AV) : R AV :=
  match x with
  | .ptr n o => match P.underlying t with
    | some (.array len el) => arrSliceA P H n o len el low high mx
    | some (.pointer ar) => (arrOf P ar).bind fun q => arrSliceA P H n o q.1 q.2 low high mx
    | _ => .no 94
  | .str s => bif isStr P t then match mx with
      | none => (boundsA s.length s.length low high none).bind fun b => .ok (.str (takeB (b.2.1 - b.1) (dropB b.1 s)))
      | some _ => .no 96
    else .no 96
  | .nilSlice => (elemSz P t).bind fun _ => (boundsA 0 0 low high mx).bind fun _ => .ok .nilSlice
  | .emptySlice => (elemSz P t).bind fun _ => (boundsA 0 0 low high mx).bind fun _ => .ok .emptySlice
  | .slice n o len lb ex es => (elemA P t).bind fun el => (sizeA P el).bind fun s =>
      bif Nat.beq es s then (boundsA len lb low high mx).bind fun b => subSlice n o s (or ex mx.isSome) b else .no 97
  | _ => .no 98

/-! ### Maps -/

noncomputable def keyA (P : Program) : Nat → TypeId → AV → Bool
  | 0, _, _ => false
  | d + 1, t, v =>
    match P.underlying t with
    | some (.interface _) => match v with
      | .iface u x => match P.info? u with | some i => bif i.comparable then keyA P d u x else false | none => false
      | .nilIface => true
      | _ => false
    | some (.array len el) => match v with
      | .agg l => match sizeA P el with
        | .ok s => (List.range len).all fun i => match partA P el (i * s) l with | .ok p => keyA P d el p | .no _ => false
        | .no _ => false
      | _ => false
    | some (.struct fs) => match v with
      | .agg l => fs.toList.all fun f => bif f.name == "_" then true else match partA P f.type f.offset l with | .ok p => keyA P d f.type p | .no _ => false
      | _ => false
    | some _ => true
    | none => false

noncomputable def findA (P : Program) (kt : TypeId) (k : AV) : List (AV × AV × Nat) → Nat → R (Option (Nat × AV))
  | [], _ => .ok none
  | e :: es, i => (eqA P dE kt k e.1).bind fun b => bif b then .ok (some (i, e.2.1)) else findA P kt k es (Nat.succ i)

noncomputable def mapOf (b : Option Blk) : R (Nat × List (AV × AV × Nat) × Nat) :=
  match b with
  | some ⟨v, .map es c⟩ => .ok (v, es, c)
  | _ => .no 100

noncomputable def entriesA (H : Hp) (m : AV) : R (List (AV × AV × Nat)) :=
  match m with
  | .nilMap => .ok []
  | .map n => (mapOf (H.get n)).bind fun q => .ok q.2.1
  | _ => .no 101

noncomputable def okOr (ok : Bool) (v : AV) (b : Bool) : AV := bif ok then .tup [v, .bool b] else v

def mapTy (P : Program) (t : TypeId) : R (TypeId × TypeId) := match P.underlying t with | some (.map k e) => .ok (k, e) | _ => .no 103

noncomputable def lookupA (P : Program) (H : Hp) (t : TypeId) (m k : AV) (ok : Bool) : R AV :=
  (mapTy P t).bind fun q => bif keyA P dE q.1 k then
    (entriesA H m).bind fun es => (findA P q.1 k es 0).bind fun r =>
      match r with
      | some (_, v) => .ok (okOr ok v true)
      | none => (zeroA P q.2).bind fun z => .ok (okOr ok z false)
  else .no 102

/-- The very same cell. -/
noncomputable def sameCell : AV → AV → Bool
  | .bool a, .bool b => a == b
  | .int j a, .int k b => bif beqK j k then eqI a b else false
  | .str a, .str b => bytesEq a b
  | .nilPtr, .nilPtr => true
  | .nilIface, .nilIface => true
  | _, _ => false

noncomputable def sameCells : List AV → List AV → Bool
  | [], [] => true
  | a :: l, b :: m => bif sameCell a b then sameCells l m else false
  | _, _ => false

noncomputable def sameA : AV → AV → Bool
  | .agg l, .agg m => sameCells l m
  | a, b => sameCell a b

noncomputable def setEntry : Nat → AV → AV → List (AV × AV × Nat) → R (List (AV × AV × Nat))
  | _, _, _, [] => .no 104
  | 0, k, v, e :: es => bif sameA e.1 k then .ok ((k, v, e.2.2) :: es) else .no 105
  | n + 1, k, v, e :: es => (setEntry n k v es).bind fun r => .ok (e :: r)

def snoc : List (AV × AV × Nat) → AV × AV × Nat → List (AV × AV × Nat)
  | [], e => [e]
  | a :: l, e => a :: snoc l e

noncomputable def putEntry (es : List (AV × AV × Nat)) (clock : Nat) (k v : AV) (r : Option (Nat × AV)) : R AB :=
  match r with
  | some (i, _) => (setEntry i k v es).bind fun es' => .ok (.map es' clock)
  | none => .ok (.map (snoc es (k, v, clock)) (Nat.succ clock))

noncomputable def mapUpdateA (P : Program) (H : Hp) (t : TypeId) (m k v : AV) : R Hp :=
  (mapTy P t).bind fun q => bif keyA P dE q.1 k then
    match m with
    | .map n => (mapOf (H.get n)).bind fun b => (findA P q.1 k b.2.1 0).bind fun r => (putEntry b.2.1 b.2.2 k v r).bind fun b' => .ok (H.ins dH n ⟨Nat.succ b.1, b'⟩)
    | _ => .no 106
  else .no 107

def eraseAt : Nat → List (AV × AV × Nat) → List (AV × AV × Nat)
  | _, [] => []
  | 0, _ :: es => es
  | n + 1, e :: es => e :: eraseAt n es

def delEntry (es : List (AV × AV × Nat)) (r : Option (Nat × AV)) : List (AV × AV × Nat) := match r with | some (i, _) => eraseAt i es | none => es

noncomputable def deleteA (P : Program) (H : Hp) (t : TypeId) (m k : AV) : R Hp :=
  (mapTy P t).bind fun q => bif keyA P dE q.1 k then
    match m with
    | .nilMap => .ok H
    | .map n => (mapOf (H.get n)).bind fun b => (findA P q.1 k b.2.1 0).bind fun r => .ok (H.ins dH n ⟨Nat.succ b.1, .map (delEntry b.2.1 r) b.2.2⟩)
    | _ => .no 109
  else .no 110

noncomputable def setKey : Nat → AV → List (AV × AV × Nat) → R (List (AV × AV × Nat))
  | _, _, [] => .no 104
  | 0, k, e :: es => bif sameA e.1 k then .ok ((k, e.2.1, e.2.2) :: es) else .no 105
  | n + 1, k, e :: es => (setKey n k es).bind fun r => .ok (e :: r)

/-- The entry at place i: its mark of birth. -/
def bornAt : Nat → List (AV × AV × Nat) → Nat
  | _, [] => 0
  | 0, e :: _ => e.2.2
  | n + 1, _ :: es => bornAt n es

noncomputable def entryIn (H : Hp) (n ver : Nat) (es : List (AV × AV × Nat)) (clock : Nat) (k z : AV) (r : Option (Nat × AV)) : R (AV × Hp) :=
  match r with
  | some (i, v) => (setKey i k es).bind fun es' => .ok (.tup [v, .int .i64 (Int.ofNat (bornAt i es))], H.ins dH n ⟨Nat.succ ver, .map es' clock⟩)
  | none => .ok (.tup [z, .int .i64 (Int.ofNat clock)], H.ins dH n ⟨Nat.succ ver, .map (snoc es (k, z, clock)) (Nat.succ clock)⟩)

noncomputable def mapEntryA (P : Program) (H : Hp) (t : TypeId) (m k : AV) : R (AV × Hp) :=
  (mapTy P t).bind fun q => bif keyA P dE q.1 k then
    match m with
    | .map n => (mapOf (H.get n)).bind fun b => (findA P q.1 k b.2.1 0).bind fun r => (zeroA P q.2).bind fun z => entryIn H n b.1 b.2.1 b.2.2 k z r
    | _ => .no 111
  else .no 112

noncomputable def storeEntry (born : Nat) (v : AV) : List (AV × AV × Nat) → R (List (AV × AV × Nat))
  | [] => .no 113
  | e :: es => bif Nat.beq e.2.2 born then .ok ((e.1, v, e.2.2) :: es) else (storeEntry born v es).bind fun r => .ok (e :: r)

noncomputable def entryStoreA (H : Hp) (m st v : AV) : R Hp :=
  match m with
  | .map n => (idxOf st).bind fun born => (mapOf (H.get n)).bind fun b => (storeEntry born v b.2.1).bind fun es => .ok (H.ins dH n ⟨Nat.succ b.1, .map es b.2.2⟩)
  | _ => .no 114

/-! ### Ranging over a map -/

def memB (n : Nat) : List Nat → Bool
  | [] => false
  | a :: l => bif Nat.beq a n then true else memB n l

def leftOf (seen : List Nat) : List (AV × AV × Nat) → List (AV × AV × Nat)
  | [] => []
  | e :: es => bif memB e.2.2 seen then leftOf seen es else e :: leftOf seen es

def allOld (since : Nat) : List (AV × AV × Nat) → Bool
  | [] => true
  | e :: es => bif Nat.blt e.2.2 since then allOld since es else false

noncomputable def rangeIt (P : Program) (H : Hp) (x : Nat) (t : TypeId) (a : AV) : O3 :=
  match P.underlying t with
  | some .string => match a with
    | .str l => .ok (.ptr x 0) (newB H x (.strIter l 0)) (Nat.succ x)
    | _ => .no 340
  | some (.map _ _) => match a with
    | .nilMap => .ok (.ptr x 0) (newB H x .nilIter) (Nat.succ x)
    | .map m => R.casesOn (mapOf (H.get m)) (fun b => .ok (.ptr x 0) (newB H x (.mapIter m b.2.2 [])) (Nat.succ x)) .no
    | _ => .no 341
  | _ => .no 342

/-- One step: which of those that are left is open. -/
noncomputable def stepTo (H : Hp) (x n ver m since : Nat) (seen : List Nat) (e : AV × AV × Nat) : AV × Hp × Nat :=
  (.tup [.bool true, e.1, e.2.1], H.ins dH n ⟨Nat.succ ver, .mapIter m since (e.2.2 :: seen)⟩, x)

noncomputable def stepAll (H : Hp) (x n ver m since : Nat) (seen : List Nat) : List (AV × AV × Nat) → List (AV × Hp × Nat)
  | [] => []
  | e :: es => stepTo H x n ver m since seen e :: stepAll H x n ver m since seen es

noncomputable def nextOf (H : Hp) (x n ver m since : Nat) (seen : List Nat) (left : List (AV × AV × Nat)) : O3 :=
  match left with
  | [] => .ok (.tup [.bool false]) H x
  | [e] => .ok (.tup [.bool true, e.1, e.2.1]) (H.ins dH n ⟨Nat.succ ver, .mapIter m since (e.2.2 :: seen)⟩) x
  | es => .or (stepAll H x n ver m since seen es)

noncomputable def strNext (H : Hp) (x n ver : Nat) (l : List UInt8) (pos : Nat) : O3 :=
  match nthB l pos with
  | none => .ok (.tup [.bool false]) H x
  | some b => bif Nat.blt b.toNat 128 then .ok (.tup [.bool true, .int .i64 (Int.ofNat pos), .int .i32 (Int.ofNat b.toNat)]) (H.ins dH n ⟨Nat.succ ver, .strIter l (Nat.succ pos)⟩) x else .no 343

noncomputable def nextA (H : Hp) (x : Nat) (it : AV) (isString : Bool) : O3 :=
  match it with
  | .ptr n 0 => match H.get n with
    | some ⟨ver, .strIter l pos⟩ => bif isString then strNext H x n ver l pos else .no 344
    | some ⟨_, .nilIter⟩ => bif isString then .no 345 else .ok (.tup [.bool false]) H x
    | some ⟨ver, .mapIter m since seen⟩ => bif isString then .no 345 else
        R.casesOn (mapOf (H.get m)) (fun b => bif Nat.beq b.2.2 since && allOld since b.2.1 then nextOf H x n ver m since seen (leftOf seen b.2.1) else .no 346) .no
    | _ => .no 347
  | _ => .no 348

def bornIs (b : Nat) : List (AV × AV × Nat) → Option (AV × AV)
  | [] => none
  | e :: es => bif Nat.beq e.2.2 b then some (e.1, e.2.1) else bornIs b es

/-- The entry that the last step met. -/
noncomputable def entryA (H : Hp) (it : AV) : R AV :=
  match it with
  | .ptr n 0 => match H.get n with
    | some ⟨_, .mapIter m since (b :: _)⟩ => (mapOf (H.get m)).bind fun q => bif Nat.beq q.2.2 since then
        match bornIs b q.2.1 with | some e => .ok (.tup [e.1, e.2]) | none => .no 353
      else .no 354
    | _ => .no 355
  | _ => .no 356

/-! ### Builtins -/

def i64 (n : Nat) : AV := .int .i64 (Int.ofNat n)

noncomputable def lenA (P : Program) (H : Hp) (t : TypeId) (x : AV) : R AV :=
  match P.underlying t with
  | some (.slice _) => match x with
    | .slice _ _ n _ _ _ => .ok (i64 n)
    | .nilSlice => .ok (i64 0)
    | .emptySlice => .ok (i64 0)
    | _ => .no 122
  | some .string => match x with | .str l => .ok (i64 l.length) | _ => .no 120
  | some (.array n _) => .ok (i64 n)
  | some (.pointer ar) => (arrOf P ar).bind fun q => .ok (i64 q.1)
  | some (.map _ _) => (entriesA H x).bind fun es => .ok (i64 es.length)
  | _ => .no 124

noncomputable def capA (P : Program) (t : TypeId) (x : AV) : R AV :=
  match P.underlying t with
  | some (.slice _) => match x with
    | .slice _ _ _ lb true _ => .ok (i64 lb)
    | .nilSlice => .ok (i64 0)
    | _ => .no 125
  | some (.array n _) => .ok (i64 n)
  | _ => .no 126

/-- The first n elements' cells. -/
noncomputable def firstA (H : Hp) (s n : Nat) (x : AV) : R (List AV) :=
  match x with
  | .slice m o _ _ _ _ => (cellsOf (H.get m)).bind fun l => subS o (n * s) l
  | .nilSlice => .ok []
  | .emptySlice => bif Nat.beq (n * s) 0 then .ok [] else .no 130
  | .str l => .ok (intsOf (takeB n l))
  | _ => .no 131

def lenOfA (x : AV) : R Nat :=
  match x with
  | .slice _ _ n _ _ _ => .ok n
  | .nilSlice => .ok 0
  | .emptySlice => .ok 0
  | .str l => .ok l.length
  | _ => .no 132

noncomputable def plainR (s n : Nat) (l : List AV) : R (Nat × List AV) := bif allPlain l then bif Nat.beq (lenS l 0) (n * s) then .ok (n, l) else .no 145 else .no 141

/-- The cells that 'append(s, make([]T, n)...)' adds. -/
noncomputable def zeroCellsA (inf : TypeInfo) (n : Nat) : R (List AV) :=
  bif Nat.beq (n * inf.size) 0 then .ok [] else
  match inf.zero with
  | none => .no 133
  | some zv => bif (ofVal zv).isJunk then .no 133 else bif Nat.beq (lenS (ofVal zv).cells 0) inf.size then .ok (repS n (ofVal zv).cells []) else .no 133

/-- The cells that an append adds: of a slice or a string; of 'make([]T, n)' (there the operand is the number). -/
noncomputable def newCells (H : Hp) (inf : TypeInfo) (u : TypeDesc) (y : AV) : R (Nat × List AV) :=
  match u with
  | .int _ => (idxOf y).bind fun n => bif Nat.ble (n * inf.bytes) 281474976710656 && Nat.ble n 9223372036854775807 then (zeroCellsA inf n).bind fun l => plainR inf.size n l else .no 133
  | _ => (lenOfA y).bind fun n => (firstA H inf.size n y).bind fun l => plainR inf.size n l

noncomputable def growA (H : Hp) (x : Nat) (el : TypeId) (inf : TypeInfo) (old new : List AV) (need : Nat) : O3 :=
  bif Nat.ble (4 * need * inf.bytes) 281474976710656 && !(Nat.beq inf.bytes 0) then
    match inf.zero with
    | none => .no 137
    | some z => bif Nat.beq z.cells.size inf.size then .ok (.slice x 0 need need false inf.size) (newB H x (.cells el (appS old new))) (Nat.succ x) else .no 137
  else .no 135

noncomputable def elemOfB (b : Option Blk) : Nat := match b with | some ⟨_, .cells el _⟩ => el | _ => 0

noncomputable def appendTo (H : Hp) (x : Nat) (el : TypeId) (inf : TypeInfo) (n : Nat) (new : List AV) (s : AV) : O3 :=
  match s with
  | .nilSlice => bif Nat.beq n 0 then .ok .nilSlice H x else growA H x el inf [] new n
  | .emptySlice => bif Nat.beq n 0 then .ok .emptySlice H x else .no 136
  | .slice m o len lb ex es =>
    bif Nat.beq es inf.size then
      bif Nat.ble (len + n) lb then R.casesOn (writeA H m (o + len * es) new) (fun H' => .ok (.slice m o (len + n) lb ex es) H' x) .no
      else R.casesOn ((cellsOf (H.get m)).bind fun l => subS o (len * es) l)
        (fun old => bif ex then growA H x el inf old new (len + n)
          else bif Nat.beq o 0 && Nat.beq (elemOfB (H.get m)) el then growA (H.del dH m) x el inf old new (len + n) else .no 138) .no
    else .no 139
  | _ => .no 140

noncomputable def appendA (P : Program) (H : Hp) (x : Nat) (t u : TypeId) (s y : AV) : O3 :=
  match P.underlying u with
  | none => .no 142
  | some ud => R.casesOn (elemA P t) (fun el => match P.info? el with
    | none => .no 134
    | some inf => R.casesOn (newCells H inf ud y) (fun q => appendTo H x el inf q.1 q.2 s) .no) .no

noncomputable def copyTo (H : Hp) (n : Nat) (d : AV) (cs : List AV) : R (AV × Hp) :=
  bif allPlain cs then
    match d with
    | .nilSlice => .ok (i64 n, H)
    | .emptySlice => bif Nat.beq (lenS cs 0) 0 then .ok (i64 n, H) else .no 143
    | .slice m o _ _ _ _ => (writeA H m o cs).bind fun H' => .ok (i64 n, H')
    | _ => .no 143
  else .no 144

noncomputable def copyA (P : Program) (H : Hp) (t : TypeId) (d s : AV) : R (AV × Hp) :=
  (elemA P t).bind fun el => (sizeA P el).bind fun z => (lenOfA s).bind fun ls => (lenOfA d).bind fun ld =>
    (firstA H z (Nat.min ls ld) s).bind fun cs => copyTo H (Nat.min ls ld) d cs

noncomputable def minmax1 (mx : Bool) (a b : AV) : R AV :=
  match a, b with
  | .int k x, .int _ y => .ok (.int k (bif (bif mx then ltI x y else ltI y x) then y else x))
  | _, _ => .no 146

noncomputable def minmaxA (mx : Bool) : AV → List AV → R AV
  | a, [] => .ok a
  | a, b :: l => (minmax1 mx a b).bind fun c => minmaxA mx c l

def intOnly : AV → Bool
  | .int _ _ => true
  | _ => false

/-- 'clear' of a slice: zero values over its elements. -/
noncomputable def clearA (P : Program) (H : Hp) (t : TypeId) (a : AV) : R Hp :=
  (elemA P t).bind fun el => match P.info? el with
  | none => .no 147
  | some inf => match a with
    | .nilSlice => .ok H
    | .emptySlice => .ok H
    | .slice m o len _ _ es => bif Nat.beq len 0 then .ok H else
        match inf.zero with
        | none => .no 147
        | some z => bif (ofVal z).isJunk then .no 147 else bif Nat.beq (lenS (ofVal z).cells 0) es && Nat.beq es inf.size then
            bif allPlain (ofVal z).cells then writeA H m o (repS len (ofVal z).cells []) else .no 147 else .no 147
    | _ => .no 148

noncomputable def builtinA (P : Program) (H : Hp) (x : Nat) (b : Builtin) (ts : List TypeId) (args : List AV) : O3 :=
  match b, ts, args with
  | .len, t :: _, [a] => toO H x (lenA P H t a)
  | .cap, t :: _, [a] => toO H x (capA P t a)
  | .append, t :: u :: _, [s, y] => appendA P H x t u s y
  | .copy, t :: _, [d, s] => R.casesOn (copyA P H t d s) (fun q => .ok q.1 q.2 x) .no
  | .delete, t :: _, [m, k] => R.casesOn (deleteA P H t m k) (fun H' => .ok (.tup []) H' x) .no
  | .clear, t :: _, [a] => R.casesOn (clearA P H t a) (fun H' => .ok (.tup []) H' x) .no
  | .min, _, a :: l => bif intOnly a then toO H x (minmaxA false a l) else .no 150
  | .max, _, a :: l => bif intOnly a then toO H x (minmaxA true a l) else .no 150
  | _, _, _ => .no 151

/-! ### The other operations -/

noncomputable def makeSliceA (P : Program) (H : Hp) (x : Nat) (t : TypeId) (len cap : AV) : O3 :=
  R.casesOn (idxOf len) (fun l => R.casesOn (idxOf cap) (fun c => R.casesOn (elemA P t) (fun el => match P.info? el with
    | none => .no 160
    | some inf =>
      bif Nat.ble l c && Nat.ble (inf.bytes * c) 281474976710656 && Nat.ble c 9223372036854775807 then
        toN H x el (.slice x 0 l c true inf.size) ((zeroA P el).bind fun z => sliceCells inf.size z c [])
      else .no 164) .no) .no) .no

noncomputable def strOfA (H : Hp) (a : AV) : R AV :=
  match a with
  | .nilSlice => .ok (.str [])
  | .emptySlice => .ok (.str [])
  | .slice m o n _ _ _ => (cellsOf (H.get m)).bind fun l => (subS o n l).bind fun cs => (bytesOf cs).bind fun bs => .ok (.str bs)
  | _ => .no 173

def isBytes (P : Program) (d : TypeDesc) : Bool :=
  match d with
  | .slice e => match P.underlying e with | some (.int .u8) => true | _ => false
  | _ => false

noncomputable def toStrA (P : Program) (H : Hp) (sd : TypeDesc) (a : AV) : R AV :=
  match a with
  | .str l => .ok (.str l)
  | .int _ _ => .no 172
  | a => bif isBytes P sd then strOfA H a else .no 175

noncomputable def convertA (P : Program) (H : Hp) (x : Nat) (src dst : TypeId) (a : AV) : O3 :=
  match P.underlying src with
  | none => .no 170
  | some sd =>
    match P.underlying dst with
    | some (.int k) => match a with
      | .int _ n => .ok (wrapV k n) H x
      | _ => .no 171
    | some .string => toO H x (toStrA P H sd a)
    | some (.slice e) => match a with
      | .str l => bif isBytes P (.slice e) then toN H x e (.slice x 0 l.length l.length false 1) (.ok (intsOf l)) else .no 176
      | _ => .no 177
    | _ => .no 178

noncomputable def zeroFalse (P : Program) (t : TypeId) (ok : Bool) : R AV := bif ok then (zeroA P t).bind fun z => .ok (.tup [z, .bool false]) else .no 181

noncomputable def typeAssertA (P : Program) (t : TypeId) (a : AV) (ok : Bool) : R AV :=
  match P.underlying t with
  | none => .no 180
  | some (.interface want) => match a with
    | .nilIface => zeroFalse P t ok
    | .iface u v => match P.info? u with
      | none => .no 182
      | some i => bif (Instr.missingMethod want i.methods).isNone then .ok (okOr ok (.iface u v) true) else zeroFalse P t ok
    | _ => .no 184
  | some _ => match a with
    | .nilIface => zeroFalse P t ok
    | .iface u v => bif Nat.beq u t then .ok (okOr ok v true) else zeroFalse P t ok
    | _ => .no 187

noncomputable def nthV (l : List AV) : Nat → R AV := List.rec (motive := fun _ => Nat → R AV) (fun _ => .no 188) (fun v _ ih n => Nat.rec (.ok v) (fun m _ => ih m) n) l
noncomputable def evs (ρ : Operand → AV) (l : List Operand) : List AV := List.rec [] (fun o _ ih => ρ o :: ih) l

def evps (ρ : Operand → AV) : List (Nat × Operand) → List (Nat × AV)
  | [] => []
  | q :: l => (q.1, ρ q.2) :: evps ρ l

def nilCheckA (a : AV) : R AV :=
  match a with
  | .junk | .nilPtr | .nilIface | .nilFunc => .no 189
  | .func (.method _) _ _ => .no 190
  | a => .ok a

def plainFn : Fn → Bool
  | .func _ => true
  | .method _ => true
  | .methodOf _ _ => true
  | _ => false

def concreteA (P : Program) (t : TypeId) : Bool := match P.underlying t with | none => false | some (.interface _) => false | some _ => true

abbrev OpF := Program → (Operand → AV) → Hp → Nat → O3

noncomputable def toP (x : Nat) (r : R (AV × Hp)) : O3 := R.casesOn r (fun q => .ok q.1 q.2 x) .no

/-- A panic of the program's own. -/
noncomputable def panicA (H : Hp) (x : Nat) (a : AV) : O3 :=
  match a with
  | .iface _ _ => .pan a H x
  | _ => .no 349

noncomputable def oMove (a : Operand) : OpF := fun _ ρ H x => .ok (ρ a) H x
noncomputable def oPick (c a b : Operand) : OpF := fun _ ρ H x => match ρ c with | .bool t => .ok (bif t then ρ a else ρ b) H x | _ => .no 200
noncomputable def oAlloc (t : TypeId) : OpF := fun P _ H x => toN H x t (.ptr x 0) ((zeroA P t).bind fun z => bif z.isJunk then .no 201 else .ok z.cells)
noncomputable def oBox (t : TypeId) (a : Operand) : OpF := fun _ ρ H x => bif (ρ a).isJunk then .no 202 else .ok (.ptr x 0) (newB H x (.cells t (ρ a).cells)) (Nat.succ x)
noncomputable def oBuild (t : TypeId) (ps : Array (Nat × Operand)) : OpF := fun P ρ H x => toO H x (buildA P t (evps ρ ps.toList))
noncomputable def oBuildSlice (t : TypeId) (n : Nat) (ps : Array (Nat × Operand)) : OpF := fun P ρ H x => buildSliceA P H x t n (evps ρ ps.toList)
noncomputable def oInsert (t : TypeId) (m k v : Operand) : OpF := fun P ρ H x => toU x (mapUpdateA P H t (ρ m) (ρ k) (ρ v))
noncomputable def oLoad (t : TypeId) (a : Operand) : OpF := fun P ρ H x => toO H x (loadA P H t (ρ a))
noncomputable def oStore (t : TypeId) (a v : Operand) : OpF := fun P ρ H x => toU x (storeA P H t (ρ a) (ρ v))
def oNo1 {α : Type} (_ : α) : OpF := fun _ _ _ _ => .no 212
def oNo2 {α β : Type} (_ : α) (_ : β) : OpF := fun _ _ _ _ => .no 212
def oNo3 {α β γ : Type} (_ : α) (_ : β) (_ : γ) : OpF := fun _ _ _ _ => .no 212
noncomputable def oNilCheck (a : Operand) : OpF := fun _ ρ H x => toO H x (nilCheckA (ρ a))
noncomputable def oBin (op : BinOp) (t : TypeId) (a b : Operand) (_ : TypeId) : OpF := fun P ρ H x => toO H x (binA P op t a b (ρ a) (ρ b))
noncomputable def oUn (op : UnOp) (_ : TypeId) (a : Operand) : OpF := fun _ ρ H x => toO H x (unA op (ρ a))
noncomputable def oConvert (s d : TypeId) (a : Operand) : OpF := fun P ρ H x => convertA P H x s d (ρ a)
noncomputable def oArrPtr (t : TypeId) (a : Operand) : OpF := fun P ρ H x => toO H x ((arrOf P t).bind fun q => match ρ a with
  | .slice m o len _ _ _ => bif Nat.ble q.1 len then .ok (.ptr m o) else .no 203
  | _ => .no 204)
noncomputable def oMakeIface (t : TypeId) (a : Operand) : OpF := fun P ρ H x => bif concreteA P t then .ok (.iface t (ρ a)) H x else .no 206
noncomputable def oMakeFunc (fn : Fn) (f c : Array Operand) : OpF := fun _ ρ H x => bif plainFn fn then .ok (.func fn (evs ρ f.toList) (evs ρ c.toList)) H x else .no 208
noncomputable def oMakeMap (t : TypeId) (r : Option Operand) : OpF := fun P ρ H x => R.casesOn (mapTy P t) (fun _ =>
  match r with
  | none => .ok (.map x) (newB H x (.map [] 0)) (Nat.succ x)
  | some o => bif intOnly (ρ o) then .ok (.map x) (newB H x (.map [] 0)) (Nat.succ x) else .no 209) .no
noncomputable def oMakeSlice (t : TypeId) (l c : Operand) : OpF := fun P ρ H x => makeSliceA P H x t (ρ l) (ρ c)
noncomputable def oSlice (t : TypeId) (a : Operand) (lo hi mx : Option Operand) : OpF := fun P ρ H x => toO H x (sliceA P H t (ρ a) (lo.map ρ) (hi.map ρ) (mx.map ρ))
noncomputable def oFieldAddr (t : TypeId) (a : Operand) (i : Nat) : OpF := fun P ρ H x => toO H x (fieldAddrA P t (ρ a) i)
noncomputable def oField (t : TypeId) (a : Operand) (i : Nat) : OpF := fun P ρ H x => toO H x (fieldA P t (ρ a) i)
noncomputable def oIndexAddr (t : TypeId) (a i : Operand) : OpF := fun P ρ H x => toO H x (indexAddrA P t (ρ a) (ρ i))
noncomputable def oIndex (t : TypeId) (a i : Operand) : OpF := fun P ρ H x => toO H x (indexA P t (ρ a) (ρ i))
noncomputable def oLookup (t : TypeId) (m k : Operand) (ok : Bool) : OpF := fun P ρ H x => toO H x (lookupA P H t (ρ m) (ρ k) ok)
noncomputable def oRange (t : TypeId) (a : Operand) : OpF := fun P ρ H x => rangeIt P H x t (ρ a)
noncomputable def oNext (a : Operand) (s : Bool) : OpF := fun _ ρ H x => nextA H x (ρ a) s
noncomputable def oEntry (a : Operand) : OpF := fun _ ρ H x => toO H x (entryA H (ρ a))
noncomputable def oMapEntry (t : TypeId) (m k : Operand) : OpF := fun P ρ H x => toP x (mapEntryA P H t (ρ m) (ρ k))
noncomputable def oEntryStore (_ : TypeId) (m s v : Operand) : OpF := fun _ ρ H x => toU x (entryStoreA H (ρ m) (ρ s) (ρ v))
noncomputable def oPanic (a : Operand) : OpF := fun _ ρ H x => panicA H x (ρ a)
noncomputable def oAssert (a : Operand) (_ t : TypeId) (ok : Bool) : OpF := fun P ρ H x => toO H x (typeAssertA P t (ρ a) ok)
noncomputable def oExtract (a : Operand) (i : Nat) : OpF := fun _ ρ H x => match ρ a with
  | .tup l => toO H x (nthV l i)
  | _ => .no 211

def nthN : List Nat → Nat → Nat
  | [], _ => 0
  | a :: _, 0 => a
  | _ :: l, n + 1 => nthN l n

/-! ### Footprints -/

def topNames : AV → List Nat
  | .ptr n _ => [n]
  | .slice n _ _ _ _ _ => [n]
  | .map n => [n]
  | .yield n => [n]
  | _ => []

/-- All names in a value, ahead of others. -/
noncomputable def namesA : Nat → AV → List Nat → List Nat
  | 0, _, acc => acc
  | d + 1, v, acc =>
    match v with
    | .ptr n _ => n :: acc
    | .slice n _ _ _ _ _ => n :: acc
    | .map n => n :: acc
    | .yield n => n :: acc
    | .func _ a b => a.foldr (namesA d) (b.foldr (namesA d) acc)
    | .iface _ v => namesA d v acc
    | .agg l => l.foldr (namesA d) acc
    | .tup l => l.foldr (namesA d) acc
    | _ => acc

noncomputable def blkNames (b : AB) (acc : List Nat) : List Nat :=
  match b with
  | .cells _ l => l.foldr (namesA 8) acc
  | .map es _ => es.foldr (fun e acc => namesA 8 e.1 (namesA 8 e.2.1 acc)) acc
  | .loop _ _ _ _ T _ _ _ _ df => (T.vals []).foldr (namesA 8) (df :: acc)
  | _ => acc

/-- The part of the heap that the names reach. -/
noncomputable def reach (H : Hp) : Nat → List Nat → Hp → Hp
  | 0, _, out => out
  | _ + 1, [], out => out
  | d + 1, n :: todo, out =>
    match out.get n with
    | some _ => reach H d todo out
    | none => match H.get n with
      | none => reach H d todo out
      | some b => reach H d (blkNames b.b todo) (out.ins dH n b)

noncomputable def pick (H : Hp) : List Nat → Hp → Hp
  | [], out => out
  | n :: l, out => match H.get n with
    | some b => pick H l (out.ins dH n b)
    | none => pick H l out

/-- What an operation has done to the heap, a name a row: none: the name is given up. -/
abbrev Delta := List (Nat × Option Blk)

noncomputable def deltaOld (p q : Hp) : List Nat → Delta → Delta
  | [], acc => acc
  | n :: l, acc => match q.get n with
    | none => deltaOld p q l ((n, none) :: acc)
    | some b' => match p.get n with
      | none => deltaOld p q l ((n, some b') :: acc)
      | some b => bif Nat.beq b.v b'.v then deltaOld p q l acc else deltaOld p q l ((n, some b') :: acc)

noncomputable def deltaNew (x : Nat) (q : Hp) : List Nat → Delta → Delta
  | [], acc => acc
  | n :: l, acc => bif Nat.ble x n then
      match q.get n with
      | some b => deltaNew x q l ((n, some b) :: acc)
      | none => deltaNew x q l acc
    else deltaNew x q l acc

noncomputable def applyD : Delta → Hp → Hp
  | [], H => H
  | (n, none) :: l, H => applyD l (H.del dH n)
  | (n, some b) :: l, H => applyD l (H.ins dH n b)

/-! ### Ways that come to one -/

noncomputable def eqL (f : AV → AV → Bool) (l : List AV) : List AV → Bool :=
  List.rec (motive := fun _ => List AV → Bool) (fun m => List.rec true (fun _ _ _ => false) m) (fun a _ ih m => List.rec false (fun b t _ => Bool.rec false (ih t) (f a b)) m) l

def eqFn : Fn → Fn → Bool
  | .func f, .func g => Nat.beq f g
  | _, _ => false

/-! The very same value. -/

noncomputable def isBoolV (p : Bool) : AV → Bool :=
  AV.rec (motive_1 := fun _ => Bool) (motive_2 := fun _ => Bool) false (fun q => p == q) (fun _ _ => false) (fun _ => false) (fun _ _ => false) false (fun _ _ _ _ _ _ => false) false false (fun _ => false) false (fun _ _ _ _ _ => false) (fun _ => false) false (fun _ _ _ => false) false (fun _ _ => false) (fun _ _ => false) true (fun _ _ _ _ => true)
noncomputable def isIntV (j : IntKind) (a : Int) : AV → Bool :=
  AV.rec (motive_1 := fun _ => Bool) (motive_2 := fun _ => Bool) false (fun _ => false) (fun k b => Bool.rec false (eqI a b) (beqK j k)) (fun _ => false) (fun _ _ => false) false (fun _ _ _ _ _ _ => false) false false (fun _ => false) false (fun _ _ _ _ _ => false) (fun _ => false) false (fun _ _ _ => false) false (fun _ _ => false) (fun _ _ => false) true (fun _ _ _ _ => true)
noncomputable def isStrV (a : List UInt8) : AV → Bool :=
  AV.rec (motive_1 := fun _ => Bool) (motive_2 := fun _ => Bool) false (fun _ => false) (fun _ _ => false) (fun b => bytesEq a b) (fun _ _ => false) false (fun _ _ _ _ _ _ => false) false false (fun _ => false) false (fun _ _ _ _ _ => false) (fun _ => false) false (fun _ _ _ => false) false (fun _ _ => false) (fun _ _ => false) true (fun _ _ _ _ => true)
noncomputable def isPtrV (n o : Nat) : AV → Bool :=
  AV.rec (motive_1 := fun _ => Bool) (motive_2 := fun _ => Bool) false (fun _ => false) (fun _ _ => false) (fun _ => false) (fun m q => Bool.rec false (Nat.beq o q) (Nat.beq n m)) false (fun _ _ _ _ _ _ => false) false false (fun _ => false) false (fun _ _ _ _ _ => false) (fun _ => false) false (fun _ _ _ => false) false (fun _ _ => false) (fun _ _ => false) true (fun _ _ _ _ => true)
noncomputable def isNilPtrV : AV → Bool :=
  AV.rec (motive_1 := fun _ => Bool) (motive_2 := fun _ => Bool) false (fun _ => false) (fun _ _ => false) (fun _ => false) (fun _ _ => false) (true) (fun _ _ _ _ _ _ => false) false false (fun _ => false) false (fun _ _ _ _ _ => false) (fun _ => false) false (fun _ _ _ => false) false (fun _ _ => false) (fun _ _ => false) true (fun _ _ _ _ => true)
noncomputable def isSliceV (n o len lb : Nat) (ex : Bool) (es : Nat) : AV → Bool :=
  AV.rec (motive_1 := fun _ => Bool) (motive_2 := fun _ => Bool) false (fun _ => false) (fun _ _ => false) (fun _ => false) (fun _ _ => false) false (fun m p len' lb' ex' es' => Bool.rec false (Bool.rec false (Bool.rec false (Bool.rec false (Bool.rec false (Nat.beq es es') (ex == ex')) (Nat.beq lb lb')) (Nat.beq len len')) (Nat.beq o p)) (Nat.beq n m)) false false (fun _ => false) false (fun _ _ _ _ _ => false) (fun _ => false) false (fun _ _ _ => false) false (fun _ _ => false) (fun _ _ => false) true (fun _ _ _ _ => true)
noncomputable def isNilSliceV : AV → Bool :=
  AV.rec (motive_1 := fun _ => Bool) (motive_2 := fun _ => Bool) false (fun _ => false) (fun _ _ => false) (fun _ => false) (fun _ _ => false) false (fun _ _ _ _ _ _ => false) (true) false (fun _ => false) false (fun _ _ _ _ _ => false) (fun _ => false) false (fun _ _ _ => false) false (fun _ _ => false) (fun _ _ => false) true (fun _ _ _ _ => true)
noncomputable def isEmptySliceV : AV → Bool :=
  AV.rec (motive_1 := fun _ => Bool) (motive_2 := fun _ => Bool) false (fun _ => false) (fun _ _ => false) (fun _ => false) (fun _ _ => false) false (fun _ _ _ _ _ _ => false) false (true) (fun _ => false) false (fun _ _ _ _ _ => false) (fun _ => false) false (fun _ _ _ => false) false (fun _ _ => false) (fun _ _ => false) true (fun _ _ _ _ => true)
noncomputable def isMapV (n : Nat) : AV → Bool :=
  AV.rec (motive_1 := fun _ => Bool) (motive_2 := fun _ => Bool) false (fun _ => false) (fun _ _ => false) (fun _ => false) (fun _ _ => false) false (fun _ _ _ _ _ _ => false) false false (fun m => Nat.beq n m) false (fun _ _ _ _ _ => false) (fun _ => false) false (fun _ _ _ => false) false (fun _ _ => false) (fun _ _ => false) true (fun _ _ _ _ => true)
noncomputable def isNilMapV : AV → Bool :=
  AV.rec (motive_1 := fun _ => Bool) (motive_2 := fun _ => Bool) false (fun _ => false) (fun _ _ => false) (fun _ => false) (fun _ _ => false) false (fun _ _ _ _ _ _ => false) false false (fun _ => false) (true) (fun _ _ _ _ _ => false) (fun _ => false) false (fun _ _ _ => false) false (fun _ _ => false) (fun _ _ => false) true (fun _ _ _ _ => true)
noncomputable def isFuncV (f : AV → AV → Bool) (fn : Fn) (a b : List AV) : AV → Bool :=
  AV.rec (motive_1 := fun _ => Bool) (motive_2 := fun _ => Bool) false (fun _ => false) (fun _ _ => false) (fun _ => false) (fun _ _ => false) false (fun _ _ _ _ _ _ => false) false false (fun _ => false) false (fun fn' a' b' _ _ => Bool.rec false (Bool.rec false (eqL f b b') (eqL f a a')) (eqFn fn fn')) (fun _ => false) false (fun _ _ _ => false) false (fun _ _ => false) (fun _ _ => false) true (fun _ _ _ _ => true)
noncomputable def isNilFuncV : AV → Bool :=
  AV.rec (motive_1 := fun _ => Bool) (motive_2 := fun _ => Bool) false (fun _ => false) (fun _ _ => false) (fun _ => false) (fun _ _ => false) false (fun _ _ _ _ _ _ => false) false false (fun _ => false) false (fun _ _ _ _ _ => false) (fun _ => false) (true) (fun _ _ _ => false) false (fun _ _ => false) (fun _ _ => false) true (fun _ _ _ _ => true)
noncomputable def isIfaceV (f : AV → AV → Bool) (t : TypeId) (v : AV) : AV → Bool :=
  AV.rec (motive_1 := fun _ => Bool) (motive_2 := fun _ => Bool) false (fun _ => false) (fun _ _ => false) (fun _ => false) (fun _ _ => false) false (fun _ _ _ _ _ _ => false) false false (fun _ => false) false (fun _ _ _ _ _ => false) (fun _ => false) false (fun u w _ => Bool.rec false (f v w) (Nat.beq t u)) false (fun _ _ => false) (fun _ _ => false) true (fun _ _ _ _ => true)
noncomputable def isNilIfaceV : AV → Bool :=
  AV.rec (motive_1 := fun _ => Bool) (motive_2 := fun _ => Bool) false (fun _ => false) (fun _ _ => false) (fun _ => false) (fun _ _ => false) false (fun _ _ _ _ _ _ => false) false false (fun _ => false) false (fun _ _ _ _ _ => false) (fun _ => false) false (fun _ _ _ => false) (true) (fun _ _ => false) (fun _ _ => false) true (fun _ _ _ _ => true)
noncomputable def isAggV (f : AV → AV → Bool) (a : List AV) : AV → Bool :=
  AV.rec (motive_1 := fun _ => Bool) (motive_2 := fun _ => Bool) false (fun _ => false) (fun _ _ => false) (fun _ => false) (fun _ _ => false) false (fun _ _ _ _ _ _ => false) false false (fun _ => false) false (fun _ _ _ _ _ => false) (fun _ => false) false (fun _ _ _ => false) false (fun b _ => eqL f a b) (fun _ _ => false) true (fun _ _ _ _ => true)
noncomputable def isTupV (f : AV → AV → Bool) (a : List AV) : AV → Bool :=
  AV.rec (motive_1 := fun _ => Bool) (motive_2 := fun _ => Bool) false (fun _ => false) (fun _ _ => false) (fun _ => false) (fun _ _ => false) false (fun _ _ _ _ _ _ => false) false false (fun _ => false) false (fun _ _ _ _ _ => false) (fun _ => false) false (fun _ _ _ => false) false (fun _ _ => false) (fun b _ => eqL f a b) true (fun _ _ _ _ => true)
noncomputable def eqStep (f : AV → AV → Bool) : AV → AV → Bool :=
  AV.rec (motive_1 := fun _ => AV → Bool) (motive_2 := fun _ => Bool) (fun _ => false) (fun p => isBoolV p) (fun k n => isIntV k n) (fun l => isStrV l) (fun n o => isPtrV n o) (isNilPtrV) (fun n o len lb ex es => isSliceV n o len lb ex es) (isNilSliceV) (isEmptySliceV) (fun n => isMapV n) (isNilMapV) (fun fn a b _ _ => isFuncV f fn a b) (fun _ _ => false) (isNilFuncV) (fun t v _ => isIfaceV f t v) (isNilIfaceV) (fun a _ => isAggV f a) (fun a _ => isTupV f a) true (fun _ _ _ _ => true)
noncomputable def eqV (d : Nat) : AV → AV → Bool := Nat.rec (motive := fun _ => AV → AV → Bool) (fun _ _ => false) (fun _ ih => eqStep ih) d

noncomputable def eqEn (d : Nat) : List (AV × AV × Nat) → List (AV × AV × Nat) → Bool
  | [], [] => true
  | a :: l, b :: m => bif eqV d a.1 b.1 then bif eqV d a.2.1 b.2.1 then bif Nat.beq a.2.2 b.2.2 then eqEn d l m else false else false else false
  | _, _ => false

/-- The very same block, but for how often it has been written. -/
noncomputable def eqB (a b : AB) : Bool :=
  match a, b with
  | .cells t l, .cells u m => bif Nat.beq t u then eqL (eqV 32) l m else false
  | .map l c, .map m c' => bif Nat.beq c c' then eqEn 32 l m else false
  | _, _ => false

/-- New blocks that are reached, as they are told: unwritten. -/
noncomputable def tell (x : Nat) (q : Hp) : List Nat → Delta → Delta
  | [], acc => acc
  | n :: l, acc => bif Nat.ble x n then (match q.get n with
      | some b => tell x q l ((n, some ⟨0, b.b⟩) :: acc)
      | none => tell x q l acc) else tell x q l acc

noncomputable def deltaNames : Delta → List Nat → List Nat
  | [], acc => acc
  | (_, none) :: l, acc => deltaNames l acc
  | (_, some b) :: l, acc => blkNames b.b (deltaNames l acc)

/-- What a call has left that its result or an old block reaches. -/
noncomputable def tellAll (x : Nat) (q : Hp) (v : AV) (old : Delta) : Delta := tell x q ((reach q 100000 (namesA 8 v (deltaNames old [])) .e).keys []) old

noncomputable def allL (f : AV → Bool) (l : List AV) : Bool := List.rec true (fun a _ ih => Bool.rec false ih (f a)) l

/-- All names in a value are below x. -/
noncomputable def below (x : Nat) : Nat → AV → Bool
  | 0, _ => false
  | d + 1, v =>
    match v with
    | .ptr n _ => Nat.blt n x
    | .slice n _ _ _ _ _ => Nat.blt n x
    | .map n => Nat.blt n x
    | .yield n => Nat.blt n x
    | .func _ a b => bif allL (below x d) a then allL (below x d) b else false
    | .iface _ v => below x d v
    | .agg l => allL (below x d) l
    | .tup l => allL (below x d) l
    | _ => true

noncomputable def eqD : Delta → Delta → Bool
  | [], [] => true
  | (n, some a) :: l, (m, some b) :: k => bif Nat.beq n m then bif Nat.beq a.v b.v then bif eqB a.b b.b then eqD l k else false else false else false
  | _, _ => false

noncomputable def belowE (x : Nat) : List (AV × AV × Nat) → Bool
  | [] => true
  | e :: l => bif below x 32 e.1 then bif below x 32 e.2.1 then belowE x l else false else false

/-- Old blocks that a way has changed, as they are told: written once more. -/
noncomputable def bump (x : Nat) (p : Hp) : Delta → R Delta
  | [] => .ok []
  | (_, none) :: _ => .no 360
  | (n, some b) :: l => match p.get n with
    | some b0 => match b.b with
      | .cells t m => bif allL (below x 32) m then (bump x p l).bind fun r => .ok ((n, some ⟨Nat.succ b0.v, .cells t m⟩) :: r) else .no 358
      | .map m c => bif belowE x m then (bump x p l).bind fun r => .ok ((n, some ⟨Nat.succ b0.v, .map m c⟩) :: r) else .no 358
      | _ => .no 359
    | none => .no 360

/-- The new name in a result: of a slice, perhaps in a tuple. -/
def newIn (x : Nat) : List AV → Option Nat
  | [] => none
  | .slice n _ _ _ _ _ :: l => bif Nat.ble x n then some n else newIn x l
  | _ :: l => newIn x l
def partsOf (v : AV) : List AV := match v with | .tup l => l | v => [v]
def ren0 (n x : Nat) (v : AV) : AV := match v with | .slice m o len lb ex es => bif Nat.beq m n then .slice x o len lb ex es else .slice m o len lb ex es | v => v
def renL (n x : Nat) : List AV → List AV
  | [] => []
  | v :: l => ren0 n x v :: renL n x l
def ren (n x : Nat) (v : AV) : AV := match v with | .tup l => .tup (renL n x l) | v => ren0 n x v
/-- All names but n are below x. -/
noncomputable def butV (n x : Nat) (v : AV) : Bool := match v with | .slice m _ _ _ _ _ => (bif Nat.beq m n then true else Nat.blt m x) | v => below x 32 v
noncomputable def but (n x : Nat) : List AV → Bool
  | [] => true
  | v :: l => bif butV n x v then but n x l else false

noncomputable def tellN (x : Nat) (v : AV) (o : Delta) (n : Nat) (b : Option Blk) : R (AV × Delta × Nat) :=
  match b with
  | some ⟨_, .cells t l⟩ => bif allL (below x 32) l then bif but n x (partsOf v) then .ok (ren n x v, (x, some ⟨0, .cells t l⟩) :: o, Nat.succ x) else .no 356 else .no 357
  | _ => .no 356

/-- What a way has left: its result, the blocks, the next name; the new slice, if there is one, is called x. -/
noncomputable def tellWay (p : Hp) (x : Nat) (v : AV) (q : Hp) : R (AV × Delta × Nat) :=
  (bump x p (deltaOld p q (p.keys []) [])).bind fun o =>
    match newIn x (partsOf v) with
    | none => bif below x 32 v then .ok (v, o, x) else .no 361
    | some n => bif Nat.ble x n then tellN x v o n (q.get n) else .no 361

/-- The other ways, held against the first. -/
noncomputable def sameWays (p : Hp) (x : Nat) (f : AV × Delta × Nat) : List (AV × Hp × Nat) → R Unit
  | [] => .ok ()
  | q :: l => (tellWay p x q.1 q.2.1).bind fun g => bif eqV 32 f.1 g.1 then bif eqD f.2.1 g.2.1 then bif Nat.beq f.2.2 g.2.2 then sameWays p x f l else .no 362 else .no 362 else .no 362

noncomputable def joinA (H p : Hp) (x : Nat) (w : AV × Hp × Nat) (l : List (AV × Hp × Nat)) : O3 :=
  R.casesOn (tellWay p x w.1 w.2.1) (fun f => R.casesOn (sameWays p x f l) (fun _ => .ok f.1 (applyD f.2.1 H) f.2.2) .no) .no

/-- Where a call has left nothing but a value without new names, the names begin anew. -/
noncomputable def okA (H : Hp) (x : Nat) (v : AV) (y : Nat) (d : Delta) : O3 :=
  match d with
  | [] => bif below x 32 v then .ok v H x else .ok v H y
  | d => .ok v (applyD d H) y

/-- A call on what its arguments reach; its ways must come to one. -/
noncomputable def forkA (call : Hp → Nat → O3) (args : List AV) (H : Hp) (x : Nat) : O3 :=
  (reach H 100000 (args.foldr (namesA 8) []) .e).force fun p =>
    O3.casesOn (call p x) (fun v q y => bif Nat.ble x y then okA H x v y (tellAll x q v (deltaOld p q (p.keys []) [])) else .no 362) .no (fun _ _ _ => .no 363)
      (fun l => match l with
        | [] => .no 364
        | w :: l => joinA H p x w l)

/-! ### Calls -/

/-- What a call does, told outright: of a function without a body, or of one of the library's. -/
abbrev ASpec := List AV → Hp → Nat → O3

/-- 'keep': for each function the temporaries to be kept behind their regions (a hint: nothing hangs on it). -/
structure Env where
  P : Program
  xt : List (FuncId × ASpec)
  keep : List Nat
  /-- The functions whose bodies call 'recover', carried out apart. -/
  rc : List FuncId
  /-- The functions that are carried out on what their arguments reach alone, and whose ways must all come to one. -/
  fk : List FuncId

/-- What code comes to: one end, or one of several. -/
inductive X2 where
  | ok (e : AE) (s : St)
  | no (c : Nat)
  | or (l : List (AE × St))

noncomputable def listX (r : X2) : R (List (AE × St)) := X2.casesOn r (fun e s => .ok [(e, s)]) .no (fun l => .ok l)

noncomputable def orX {α : Type} (f : α → X2) : List α → R (List (AE × St))
  | [] => .ok []
  | q :: l => (listX (f q)).bind fun a => (orX f l).bind fun b => .ok (a ++ b)

noncomputable def orXX {α : Type} (f : α → X2) (l : List α) : X2 := R.casesOn (orX f l) .or .no

noncomputable def goX (r : X2) (f : AE → St → X2) : X2 := X2.rec (motive := fun _ => X2) f .no (orXX fun q => f q.1 q.2) r

noncomputable def listO (r : O3) : R (List (AV × Hp × Nat)) := O3.casesOn r (fun v H x => .ok [(v, H, x)]) .no (fun _ _ _ => .no 350) (fun l => .ok l)

noncomputable def orO {α : Type} (f : α → O3) : List α → R (List (AV × Hp × Nat))
  | [] => .ok []
  | q :: l => (listO (f q)).bind fun a => (orO f l).bind fun b => .ok (a ++ b)

noncomputable def orOO {α : Type} (f : α → O3) (l : List α) : O3 := R.casesOn (orO f l) .or .no

noncomputable def goXO (r : X2) (f : AE → St → O3) : O3 := X2.casesOn r f .no (orOO fun q => f q.1 q.2)
noncomputable def goOX (r : O3) (f : AV → Hp → Nat → X2) (g : AV → Hp → Nat → X2) : X2 := O3.rec (motive := fun _ => X2) f .no g (orXX fun q => f q.1 q.2.1 q.2.2) r
/-- One way, and no panic. -/
noncomputable def oneO (r : O3) (f : AV → Hp → Nat → O3) : O3 := O3.casesOn r f .no (fun _ _ _ => .no 351) (fun _ => .no 352)

abbrev Rec := Ctx → Code → St → X2

noncomputable def specOf (f : FuncId) : List (FuncId × ASpec) → Option ASpec
  | [] => none
  | (g, s) :: l => bif Nat.beq g f then some s else specOf f l

/-- What is kept behind its region. -/
def kept (km t : Nat) : Bool := Nat.beq (Nat.land (Nat.shiftRight km t) 1) 1

/-- What is not kept is not known. -/
noncomputable def insT (km d : Nat) (T : Tr AV) (t : Nat) (v : AV) : Tr AV := Bool.casesOn (kept km t) T (T.ins d t v)

noncomputable def argsT (km d : Nat) (l : List AV) : Nat → Tr AV → Tr AV := List.rec (motive := fun _ => Nat → Tr AV → Tr AV) (fun _ T => T) (fun v _ ih i T => ih (Nat.succ i) (insT km d T i v)) l

noncomputable def resA (P : Program) (s : St) (H : Hp) (r : ResultVar) : R AV := ResultVar.casesOn r (fun t => .ok (getT s.L s.T t)) (fun a t => loadA P H t (getT s.L s.T a))

noncomputable def resL (P : Program) (s : St) (H : Hp) : List ResultVar → R (List AV)
  | [] => .ok []
  | r :: l => (resA P s H r).bind fun v => (resL P s H l).bind fun vs => .ok (v :: vs)

noncomputable def one (vs : List AV) : AV :=
  match vs with
  | [v] => v
  | vs => .tup vs

def isDefd : Option Blk → Bool
  | some ⟨_, .defd⟩ => true
  | _ => false

def isNG (fn : Func) : Bool := fn.name == "runtime.NumGoroutine"

/-- A function's body, where it has one that may be entered. -/
def bodyOf (P : Program) (f : FuncId) : R (Func × Code) :=
  match P.funcs[f]? with
  | none => .no 221
  | some fn => match fn.body with
    | none => .no (1000 + f)
    | some c => bif isNG fn then .no 222 else .ok (fn, c)

/-- The calls that wait, the last first. 'md': the panic that is under way ('nilIface': none). -/
noncomputable def leaveD (call : AV → FuncId → List AV → Hp → Nat → O3) (H : Hp) (x : Nat) (md : AV) : List DE → O3
  | [] => .ok md H x
  | .mark d :: l => bif isDefd (H.get d) then leaveD call (H.del dH d) x md l else .no 220
  | .call f args :: l => oneO (call md f args H x) (fun md' H' x' => leaveD call H' x' md' l)
  | .pan _ :: _ => .no 226

/-- The end of a function: its results, or the panic. -/
noncomputable def leaveR (P : Program) (fn : Func) (s : St) (md : AV) (H : Hp) (x : Nat) : O3 :=
  match md with
  | .nilIface => R.casesOn (resL P s H fn.results.toList) (fun vs => .ok (one vs) H x) .no
  | .iface t v => .pan (.iface t v) H x
  | _ => .no 227

noncomputable def leaveM (call : AV → FuncId → List AV → Hp → Nat → O3) (P : Program) (fn : Func) (s : St) (md : AV) : O3 := oneO (leaveD call s.H s.x md s.D) (leaveR P fn s)

/-- When the body has been left. -/
noncomputable def leaveA (call : AV → FuncId → List AV → Hp → Nat → O3) (P : Program) (fn : Func) (e : AE) (s : St) : O3 :=
  AE.casesOn e (leaveM call P fn s .nilIface) (fun _ => .no 223) (leaveM call P fn s .nilIface) (fun v => leaveM call P fn s v)

def hasF (f : FuncId) : List FuncId → Bool
  | [] => false
  | g :: l => bif Nat.beq g f then true else hasF f l

def noD (s : St) : Bool := match s.D with | [] => true | _ :: _ => false

/-- A deferred call's own list: the panic that it may recover. -/
def rvD (md : AV) : List DE := match md with | .nilIface => [] | v => [.pan v]

/-- What is left of the panic. -/
def mdOf (s : St) : R AV := match s.D with | [] => .ok .nilIface | [.pan v] => .ok v | _ => .no 225

def plainEnd : AE → Bool
  | .normal => true
  | .ret => true
  | _ => false

/-- A deferred call's end: its results must be there, though nobody asks for them. -/
noncomputable def defEnd (P : Program) (fn : Func) (md : R AV) (e : AE) (s : St) : O3 :=
  bif plainEnd e then R.casesOn md (fun m => R.casesOn (resL P s s.H fn.results.toList) (fun _ => .ok m s.H s.x) .no) .no else .no 224

/-- A deferred call's body; its results are not asked for. 'call': its own deferred calls. -/
noncomputable def defBodyA (E : Env) (rec : Rec) (call : AV → FuncId → List AV → Hp → Nat → O3) (f : FuncId) (fn : Func) (c : Code) (md : AV) (args : List AV) (H : Hp) (x : Nat) : O3 :=
  bif hasF f E.rc then
    X2.casesOn (rec ⟨none, true, f, fn.ntmps, nthN E.keep f⟩ c ⟨.nil, argsT (nthN E.keep f) (dT fn.ntmps) args 0 .e, rvD md, H, x⟩) (fun e s => defEnd E.P fn (mdOf s) e s) .no (fun _ => .no 228)
  else
    X2.casesOn (rec ⟨none, false, f, fn.ntmps, nthN E.keep f⟩ c ⟨.nil, argsT (nthN E.keep f) (dT fn.ntmps) args 0 .e, [], H, x⟩) (fun e s => oneO (leaveA call E.P fn e s) (fun _ H x => .ok md H x)) .no (fun _ => .no 228)

noncomputable def defCallB (E : Env) (rec : Rec) (call : AV → FuncId → List AV → Hp → Nat → O3) (md : AV) (f : FuncId) (args : List AV) (H : Hp) (x : Nat) : O3 :=
  R.casesOn (bodyOf E.P f) (fun q => bif Nat.ble (lenS args 0) q.1.ntmps then defBodyA E rec call f q.1 q.2 md args H x else .no 224) .no

/-- Deferred calls, and theirs. -/
noncomputable def defCallN (E : Env) (rec : Rec) : Nat → AV → FuncId → List AV → Hp → Nat → O3
  | 0 => fun _ _ _ _ _ => .no 225
  | d + 1 => defCallB E rec (defCallN E rec d)

noncomputable def defCallA (E : Env) (rec : Rec) : AV → FuncId → List AV → Hp → Nat → O3 := defCallN E rec 4

noncomputable def bodyA (E : Env) (rec : Rec) (f : FuncId) (fn : Func) (c : Code) (args : List AV) (H : Hp) (x : Nat) : O3 :=
  goXO (rec ⟨none, false, f, fn.ntmps, nthN E.keep f⟩ c ⟨.nil, argsT (nthN E.keep f) (dT fn.ntmps) args 0 .e, [], H, x⟩) (leaveA (defCallA E rec) E.P fn)

noncomputable def bodyCallA (E : Env) (rec : Rec) (f : FuncId) (args : List AV) (H : Hp) (x : Nat) : O3 :=
  R.casesOn (bodyOf E.P f) (fun q => bif Nat.ble (lenS args 0) q.1.ntmps then bodyA E rec f q.1 q.2 args H x else .no 224) .no

noncomputable def bareCallA (E : Env) (rec : Rec) (f : FuncId) (args : List AV) (H : Hp) (x : Nat) : O3 :=
  bif hasF f E.fk then forkA (bodyCallA E rec f args) args H x else bodyCallA E rec f args H x

noncomputable def callA (E : Env) (rec : Rec) (f : FuncId) (args : List AV) (H : Hp) (x : Nat) : O3 :=
  Option.casesOn (specOf f E.xt) (bareCallA E rec f args H x) (fun sp => O3.casesOn (sp args H x) .ok (fun _ => bareCallA E rec f args H x) (fun _ _ _ => .no 229) (fun _ => .no 229))

noncomputable def setParams (km d nt : Nat) : List Tmp → List AV → Tr AV → R (Tr AV)
  | [], [], T => .ok T
  | t :: ts, v :: vs, T => bif Nat.blt t nt then setParams km d nt ts vs (insT km d T t v) else .no 229
  | _, _, _ => .no 225

def endOf : AE → AV × LoopState × Option Code
  | .normal => (.bool true, .ready, none)
  | .ret => (.bool false, .done, some .ret)
  | .exit id => (.bool false, .done, some (.exit id))
  | .pan _ => (.bool false, .done, none)

def isPan : AE → Bool
  | .pan _ => true
  | _ => false

/-- The end of a round: the record says how it was left. -/
noncomputable def roundEnd (l : Nat) (e : AE) (s : St) : O3 :=
  bif isPan e then .no 226 else
  match s.H.get l with
  | some ⟨v, .loop _ _ fn L T nt ps asg body df⟩ =>
    .ok (endOf e).1 (s.H.ins dH l ⟨Nat.succ v, .loop (endOf e).2.1 (endOf e).2.2 fn L T nt ps asg body df⟩) s.x
  | _ => .no 226

/-- The record turns busy. -/
noncomputable def roundBegin (l : Nat) (s : St) : R St :=
  match s.H.get l with
  | some ⟨v, .loop .ready p fn L T nt ps asg body df⟩ => .ok { s with H := s.H.ins dH l ⟨Nat.succ v, .loop .busy p fn L T nt ps asg body df⟩ }
  | _ => .no 227

noncomputable def roundBody (rec : Rec) (c : Ctx) (l : Nat) (body : Code) (s : St) : O3 :=
  goXO (rec c body s) (fun e s3 => bif noD s3 then roundEnd l e s3 else .no 227)

noncomputable def roundMid (rec : Rec) (c : Ctx) (l : Nat) (body : Code) (e : AE) (s1 : St) : O3 :=
  match e with
  | .normal => bif noD s1 then R.casesOn (roundBegin l s1) (fun s2 => roundBody rec c l body s2) .no else .no 227
  | _ => .no 228

noncomputable def yieldA (rec : Rec) (l : Nat) (args : List AV) (H : Hp) (x : Nat) : O3 :=
  match H.get l with
  | some ⟨_, .loop _ _ fn km T nt ps asg body _⟩ =>
    R.casesOn (setParams km (dT nt) nt ps.toList args T) (fun T1 => goXO (rec ⟨some l, false, fn, nt, km⟩ asg ⟨.nil, T1, [], H, x⟩) (roundMid rec ⟨some l, false, fn, nt, km⟩ l body)) .no
  | _ => .no 230

/-- The function that a method of a dynamic type is. -/
def methodA (P : Program) (t : TypeId) (name : String) : R FuncId :=
  match P.info? t with
  | none => .no 231
  | some i => match i.methods.find? (·.name == name) with
    | none => .no 232
    | some m => match m.path.toList with
      | _ :: _ => .no 233
      | [] => match m.func with
        | none => .no 234
        | some (f, pr) => match P.underlying t with
          | some (.pointer _) => bif pr then .ok f else .no 235
          | some _ => bif pr then .no 236 else .ok f
          | none => .no 237

noncomputable def methodCallA (E : Env) (rec : Rec) (recv : AV) (name : String) (args : List AV) (H : Hp) (x : Nat) : O3 :=
  match recv with
  | .iface t v => R.casesOn (methodA E.P t name) (fun f => callA E rec f (v :: args) H x) .no
  | _ => .no 238

def isIface (P : Program) (t : TypeId) : R Bool :=
  match P.underlying t with
  | some (.interface _) => .ok true
  | some _ => .ok false
  | none => .no 239

noncomputable def methodOfA (E : Env) (rec : Rec) (t : TypeId) (name : String) (r : AV) (rest : List AV) (H : Hp) (x : Nat) : O3 :=
  R.casesOn (isIface E.P t) (fun b => methodCallA E rec (bif b then r else .iface t r) name rest H x) .no

noncomputable def fnCallA (E : Env) (rec : Rec) (fn : Fn) (first cap args : List AV) (H : Hp) (x : Nat) : O3 :=
  match fn with
  | .func g => callA E rec g (appS first (appS args cap)) H x
  | .method name => match appS first args with
    | r :: rest => methodCallA E rec r name rest H x
    | [] => .no 240
  | .methodOf t name => match appS first args with
    | r :: rest => methodOfA E rec t name r rest H x
    | [] => .no 241
  | _ => .no 242

noncomputable def invokeA (E : Env) (rec : Rec) (f : AV) (args : List AV) (H : Hp) (x : Nat) : O3 :=
  match f with
  | .func fn first cap => fnCallA E rec fn first cap args H x
  | .yield l => yieldA rec l args H x
  | _ => .no 243

abbrev OpE := Env → Rec → (Operand → AV) → Hp → Nat → O3

noncomputable def oCall (c : Call) : OpE := fun E rec ρ H x =>
  match c.callee with
  | .builtin b => builtinA E.P H x b c.argTypes.toList (evs ρ c.args.toList)
  | .value f => invokeA E rec (ρ f) (evs ρ c.args.toList) H x
  | .invoke r name => methodCallA E rec (ρ r) name (evs ρ c.args.toList) H x

noncomputable def lift (f : OpF) : OpE := fun E _ ρ H x => f E.P ρ H x

noncomputable def execA : Op → OpE :=
  Op.rec (motive := fun _ => OpE) (fun a => lift (oMove a)) (fun a => lift (oMove a)) (fun c a b => lift (oPick c a b)) (fun t => lift (oAlloc t)) (fun t a => lift (oBox t a)) (fun t p => lift (oBuild t p)) (fun t n p => lift (oBuildSlice t n p))
    (fun t m k v => lift (oInsert t m k v)) (fun t a => lift (oLoad t a)) (fun t a v => lift (oStore t a v)) (fun a => lift (oNo1 a)) (fun a => lift (oNo1 a)) (fun a => lift (oNilCheck a))
    (fun op t a b u => lift (oBin op t a b u)) (fun op t a => lift (oUn op t a)) (fun s d a => lift (oConvert s d a)) (fun t a => lift (oArrPtr t a)) (fun t a => lift (oMakeIface t a)) (fun f a b => lift (oMakeFunc f a b))
    (fun t r => lift (oMakeMap t r)) (fun a b => lift (oNo2 a b)) (fun t l c => lift (oMakeSlice t l c)) (fun t a l h m => lift (oSlice t a l h m)) (fun t a i => lift (oFieldAddr t a i)) (fun t a i => lift (oField t a i))
    (fun t a i => lift (oIndexAddr t a i)) (fun t a i => lift (oIndex t a i)) (fun t m k ok => lift (oLookup t m k ok)) (fun t m k v => lift (oInsert t m k v)) (fun t m k => lift (oMapEntry t m k)) (fun t m s v => lift (oEntryStore t m s v))
    (fun t a => lift (oRange t a)) (fun a b => lift (oNext a b)) (fun a => lift (oEntry a)) (fun a u t ok => lift (oAssert a u t ok)) (fun a i => lift (oExtract a i)) oCall (fun a => lift (oNo1 a)) (fun a => lift (oNo1 a)) (fun a => lift (oPanic a))
    (fun a b => lift (oNo2 a b)) (fun a b c => lift (oNo3 a b c)) (fun a b => lift (oNo2 a b))

/-! ### Regions in the order of the text -/

def guardDst (ops : Array Oper) (j : Nat) : Option Tmp := (ops[j]?).bind (·.dst)

noncomputable def boolIs (v : AV) (want : Bool) : R Bool :=
  match v with
  | .bool b => .ok (b == want)
  | .junk => .no 250
  | _ => .ok false

noncomputable def wantedA (ops : Array Oper) (L : Lo) (T : Tr AV) (g : Option (Nat × Bool)) : R Bool :=
  Option.rec (motive := fun _ => R Bool) (.ok true) (fun q => Option.casesOn (guardDst ops q.1) (.ok false) (fun d => boolIs (getT L T d) q.2)) g

noncomputable def putN5 (nt : Nat) (kept : Bool) (L : Lo) (T : Tr AV) (D : List DE) (t : Tmp) (v : AV) (H : Hp) (x : Nat) : R St :=
  Bool.rec (motive := fun _ => R St) (.no 251) (Bool.rec (motive := fun _ => R St) (.ok ⟨.cons t v L, T, D, H, x⟩) (.ok ⟨L, T.ins (dT nt) t v, D, H, x⟩) kept) (Nat.blt t nt)
noncomputable def putA5 (nt km : Nat) (o : Oper) (L : Lo) (T : Tr AV) (D : List DE) (v : AV) (H : Hp) (x : Nat) : R St :=
  Option.rec (motive := fun _ => R St) (.ok ⟨L, T, D, H, x⟩) (fun t => putN5 nt (kept km t) L T D t v H x) o.dst
noncomputable def putN (nt : Nat) (kept : Bool) (s : St) (t : Tmp) (v : AV) (H : Hp) (x : Nat) : R St := putN5 nt kept s.L s.T s.D t v H x
noncomputable def putA (nt km : Nat) (o : Oper) (s : St) (v : AV) (H : Hp) (x : Nat) : R St := putA5 nt km o s.L s.T s.D v H x

/-- A deferred call, as it will be made. -/
noncomputable def defOf (c : Call) (ρ : Operand → AV) : R DE :=
  match c.callee with
  | .value f => match ρ f with
    | .func (.func g) first cap => .ok (.call g (appS first (appS (evs ρ c.args.toList) cap)))
    | _ => .no 253
  | _ => .no 254

noncomputable def exNormal (r : R St) : X2 := R.rec (motive := fun _ => X2) (.ok .normal) .no r

noncomputable def defStep (c : Ctx) (o : Oper) (dc : Call) (s : St) : X2 :=
  match c.ro with
  | some _ => .no 255
  | none => bif c.rv then .no 256 else R.casesOn (defOf dc (evalT s.L s.T)) (fun d => exNormal (putA c.nt c.km o ⟨s.L, s.T, d :: s.D, s.H, s.x⟩ (.tup []) s.H s.x)) .no

def isRecover (c : Call) : Bool := match c.callee with | .builtin .recover => true | _ => false

/-- What an operation leaves in its temporary, or the panic. -/
noncomputable def opEnd5 (c : Ctx) (o : Oper) (L : Lo) (T : Tr AV) (D : List DE) (r : O3) : X2 :=
  goOX r (fun v H x => exNormal (putA5 c.nt c.km o L T D v H x)) (fun v H x => .ok (.pan v) ⟨L, T, D, H, x⟩)
noncomputable def opEnd (c : Ctx) (o : Oper) (s : St) (r : O3) : X2 := opEnd5 c o s.L s.T s.D r

noncomputable def recStep (c : Ctx) (o : Oper) (s : St) : X2 :=
  match s.D with
  | [] => exNormal (putA c.nt c.km o s .nilIface s.H s.x)
  | [.pan v] => exNormal (putA c.nt c.km o ⟨s.L, s.T, [], s.H, s.x⟩ v s.H s.x)
  | _ => .no 258

/-- In a deferred call that calls 'recover': no other call, no defer. -/
noncomputable def rvStep (E : Env) (rec : Rec) (c : Ctx) (o : Oper) (s : St) : X2 :=
  match o.op with
  | .defer _ => .no 256
  | .call dc => bif isRecover dc then recStep c o s else .no 257
  | op => O3.casesOn (execA op E rec (evalT s.L s.T) s.H s.x) (fun v H x => exNormal (putA c.nt c.km o s v H x)) .no (fun _ _ _ => .no 259) (fun _ => .no 259)

noncomputable def deferOf : Op → Option Call :=
  Op.rec (motive := fun _ => Option Call) (fun _ => none) (fun _ => none) (fun _ _ _ => none) (fun _ => none) (fun _ _ => none) (fun _ _ => none) (fun _ _ _ => none) (fun _ _ _ _ => none) (fun _ _ => none) (fun _ _ _ => none) (fun _ => none) (fun _ => none) (fun _ => none)
    (fun _ _ _ _ _ => none) (fun _ _ _ => none) (fun _ _ _ => none) (fun _ _ => none) (fun _ _ => none) (fun _ _ _ => none) (fun _ _ => none) (fun _ _ => none) (fun _ _ _ => none) (fun _ _ _ _ _ => none) (fun _ _ _ => none) (fun _ _ _ => none)
    (fun _ _ _ => none) (fun _ _ _ => none) (fun _ _ _ _ => none) (fun _ _ _ _ => none) (fun _ _ _ => none) (fun _ _ _ _ => none) (fun _ _ => none) (fun _ _ => none) (fun _ => none) (fun _ _ _ _ => none) (fun _ _ => none) (fun _ => none) (fun _ => none) (fun c => some c) (fun _ => none)
    (fun _ _ => none) (fun _ _ _ => none) (fun _ _ => none)

noncomputable def doStep5 (E : Env) (rec : Rec) (c : Ctx) (o : Oper) (L : Lo) (T : Tr AV) (D : List DE) (H : Hp) (x : Nat) : X2 :=
  Option.casesOn (deferOf o.op) (opEnd5 c o L T D (execA o.op E rec (evalT L T) H x)) (fun dc => defStep c o dc ⟨L, T, D, H, x⟩)
noncomputable def doStep (E : Env) (rec : Rec) (c : Ctx) (o : Oper) (s : St) : X2 := doStep5 E rec c o s.L s.T s.D s.H s.x

noncomputable def opStep5 (E : Env) (rec : Rec) (c : Ctx) (o : Oper) (L : Lo) (T : Tr AV) (D : List DE) (H : Hp) (x : Nat) (w : Bool) : X2 :=
  Bool.casesOn w (exNormal (putA5 c.nt c.km o L T D (.tup []) H x)) (Bool.casesOn c.rv (doStep5 E rec c o L T D H x) (rvStep E rec c o ⟨L, T, D, H, x⟩))
noncomputable def opStep (E : Env) (rec : Rec) (c : Ctx) (o : Oper) (s : St) (w : Bool) : X2 := opStep5 E rec c o s.L s.T s.D s.H s.x w

/-- On from where the code went on; all else passes. -/
noncomputable def bindS (f : St → X2) (e : AE) : St → X2 := AE.rec (motive := fun _ => St → X2) f (fun id s => .ok (.exit id) s) (fun s => .ok .ret s) (fun v s => .ok (.pan v) s) e

noncomputable def opsA (E : Env) (rec : Rec) (c : Ctx) (ops : Array Oper) (l : List Oper) : St → X2 :=
  List.rec (motive := fun _ => St → X2) (fun s => .ok .normal s)
    (fun o _ ih s => St.rec (motive := fun _ => X2) (fun L T D H x => R.rec (motive := fun _ => X2) (fun w => goX (opStep5 E rec c o L T D H x w) (bindS ih)) .no (wantedA ops L T o.guard)) s) l

/-! ### Regions that draw their order -/

noncomputable def footCall (c : Call) (ρ : Operand → AV) (H : Hp) : Hp :=
  match c.callee with
  | .builtin _ => pick H ((evs ρ c.args.toList).foldr (fun v acc => topNames v ++ acc) []) .e
  | .value f => reach H 100000 (namesA 8 (ρ f) ((evs ρ c.args.toList).foldr (namesA 8) ([] : List Nat))) .e
  | .invoke r _ => reach H 100000 (namesA 8 (ρ r) ((evs ρ c.args.toList).foldr (namesA 8) ([] : List Nat))) .e

noncomputable def footA (ρ : Operand → AV) (H : Hp) (op : Op) : Hp :=
  match op with
  | .load _ a => pick H (topNames (ρ a)) .e
  | .store _ a _ => pick H (topNames (ρ a)) .e
  | .slice _ a _ _ _ => pick H (topNames (ρ a)) .e
  | .convert _ _ a => pick H (topNames (ρ a)) .e
  | .lookup _ m _ _ => pick H (topNames (ρ m)) .e
  | .mapUpdate _ m _ _ => pick H (topNames (ρ m)) .e
  | .insert _ m _ _ => pick H (topNames (ρ m)) .e
  | .call c => footCall c ρ H
  | _ => .e

/-- What is told of an operation of a region that draws: the part of the heap that it was run on, and what it did. -/
structure Rcd where
  i : Nat
  foot : List Nat
  delta : Delta

def hasName (n : Nat) : List Nat → Bool
  | [] => false
  | m :: l => bif Nat.beq m n then true else hasName n l

def meets (d : Delta) (foot : List Nat) : Bool :=
  match d with
  | [] => false
  | (n, _) :: l => bif hasName n foot then true else meets l foot

/-- May the two be taken in either order? Else the later must come behind the earlier. -/
def apartR (bef : Nat → Nat) (a : Rcd) : List Rcd → Bool
  | [] => true
  | b :: l => bif (bif meets a.delta b.foot then true else meets b.delta a.foot) then
      bif Nat.testBit (bef a.i) b.i then apartR bef a l else false
    else apartR bef a l

def isNilL (l : List Nat) : Bool := match l with | [] => true | _ => false

noncomputable def rcdOf (i : Nat) (p q : Hp) (x : Nat) : Rcd := ⟨i, p.keys [], deltaNew x q (q.keys []) (deltaOld p q (p.keys []) [])⟩

/-- An operation that neither saw nor left any block is not told of. -/
noncomputable def addR (bef : Nat → Nat) (r : Rcd) (rs : List Rcd) : R (List Rcd) :=
  bif isNilL r.foot && r.delta.isEmpty then .ok rs else bif apartR bef r rs then .ok (r :: rs) else .no 260

noncomputable def drawStep5 (E : Env) (rec : Rec) (nt km : Nat) (bef : Nat → Nat) (o : Oper) (i : Nat) (rs : List Rcd) (L : Lo) (T : Tr AV) (D : List DE) (H : Hp) (x : Nat) (w : Bool) : R (List Rcd × St) :=
  bif w then
    (footA (evalT L T) H o.op).force fun p =>
      O3.casesOn (execA o.op E rec (evalT L T) p x) (fun v q y =>
        bif Nat.ble x y then (addR bef (rcdOf i p q x) rs).bind fun rs' => (putA5 nt km o L T D v (applyD (rcdOf i p q x).delta H) y).bind fun s' => .ok (rs', s') else .no 252) .no (fun _ _ _ => .no 265) (fun _ => .no 266)
  else (putA5 nt km o L T D (.tup []) H x).bind fun s' => .ok (rs, s')
noncomputable def drawStep (E : Env) (rec : Rec) (nt km : Nat) (bef : Nat → Nat) (o : Oper) (i : Nat) (rs : List Rcd) (s : St) (w : Bool) : R (List Rcd × St) := drawStep5 E rec nt km bef o i rs s.L s.T s.D s.H s.x w

noncomputable def drawA (E : Env) (rec : Rec) (nt km : Nat) (ops : Array Oper) (bef : Nat → Nat) (l : List Oper) : Nat → List Rcd → St → R St :=
  List.rec (motive := fun _ => Nat → List Rcd → St → R St) (fun _ _ s => .ok s)
    (fun o _ ih i rs s => St.rec (motive := fun _ => R St) (fun L T D H x => (wantedA ops L T o.guard).bind fun w => (drawStep5 E rec nt km bef o i rs L T D H x w).bind fun q => ih (Nat.succ i) q.1 q.2) s) l

/-! #### What is asked of the region's text alone -/

def memN (n : Nat) : List Nat → Bool
  | [] => false
  | a :: l => bif Nat.beq a n then true else memN n l

/-- x is ahead of y in the text: may y be taken first, as far as the temporaries go? -/
def apartT (ops : Array Oper) (x y : Oper) : Bool :=
  (match x.dst with
   | some d => !(memN d (y.looksAt ops)) && !(match y.dst with | some e => Nat.beq d e | none => false)
   | none => true) &&
  (match y.dst with
   | some d => !(memN d (x.looksAt ops))
   | none => true)

def apartAll (ops : Array Oper) (y : Oper) (b : Nat) : List Oper → Nat → Bool
  | [], _ => true
  | x :: l, i => bif Nat.testBit b i then apartAll ops y b l (Nat.succ i) else bif apartT ops x y then apartAll ops y b l (Nat.succ i) else false

def edgesOk (i : Nat) : List Edge → Bool
  | [] => true
  | e :: l => bif Region.binds .any e then bif Nat.blt e.on i then edgesOk i l else false else edgesOk i l

/-- The mask of all that must come ahead of an operation. -/
def befOf (acc : Nat → Nat) : List Edge → Nat → Nat
  | [], s => s
  | e :: l, s => bif Region.binds .any e then befOf acc l (s ||| Nat.pow 2 e.on ||| acc e.on) else befOf acc l s

def befL : List Oper → List Nat → List Nat
  | [], acc => acc
  | o :: l, acc => befL l (acc ++ [befOf (nthN acc) o.after.toList 0])

def textOk (ops : Array Oper) (done : List Oper) (bef : List Nat) : List Oper → Nat → Bool
  | [], _ => true
  | o :: l, i => bif edgesOk i o.after.toList then bif apartAll ops o (nthN bef i) done 0 then textOk ops (done ++ [o]) bef l (Nat.succ i) else false else false

def lenO : List Oper → Nat → Nat
  | [], n => n
  | _ :: l, n => lenO l (Nat.succ n)

def regionOk (ops : List Oper) : Bool := textOk ops.toArray [] (befL ops []) ops 0

/-! ### Code -/

/-- Entering a range over a function: the block for deferred calls comes first in the list of marks. -/
noncomputable def enterA (c : Ctx) (s : St) : R St :=
  match c.ro with
  | none => .ok ⟨s.L, s.T, .mark s.x :: s.D, newB s.H s.x .defd, Nat.succ s.x⟩
  | some l => match s.H.get l with
    | some ⟨_, .loop _ _ _ _ _ _ _ _ _ df⟩ => .ok ⟨s.L, s.T, .mark df :: s.D, s.H, s.x⟩
    | _ => .no 302

def jumpOf : Option Code → R AE
  | none => .ok .normal
  | some .ret => .ok .ret
  | some (.exit id) => .ok (.exit id)
  | _ => .no 304

/-- The end of a range over a function: the pending jump. -/
noncomputable def rangeEnd (s : St) (l : Nat) : X2 :=
  match s.H.get l with
  | some ⟨_, .loop st pend _ _ _ _ _ _ _ _⟩ =>
    match st with
    | .busy => .no 303
    | _ => R.casesOn (jumpOf pend) (fun e => .ok e ⟨s.L, s.T, s.D, s.H.del dH l, s.x⟩) .no
  | _ => .no 305

noncomputable def marks (c : Ctx) (df : Nat) (D : List DE) : List DE := match c.ro with | none => .mark df :: D | some _ => D

noncomputable def rangeCallA (E : Env) (rec : Rec) (c : Ctx) (s : St) (g : AV) (l : Nat) (D : List DE) (H : Hp) : X2 :=
  match g with
  | .func (.func f) first cap => goOX (bodyCallA E rec f (appS first (.yield l :: cap)) H (Nat.succ l)) (fun _ H2 x2 => rangeEnd ⟨s.L, s.T, D, H2, x2⟩ l) (fun _ _ _ => .no 309)
  | _ => .no 306

noncomputable def rangeA (E : Env) (rec : Rec) (c : Ctx) (g : Operand) (ps : Array Tmp) (asg body : Code) (s : St) : X2 :=
  R.casesOn (enterA c s) (fun s1 => match s1.D with
    | [] => .no 302
    | .call _ _ :: _ => .no 302
    | .pan _ :: _ => .no 302
    | .mark df :: D => rangeCallA E rec c s (evalT s.L s.T g) s1.x (marks c df D) (newB s1.H s1.x (.loop .ready none c.fn c.km s.T c.nt ps asg body df))) .no

noncomputable def exBlock (id : Nat) (e : AE) (s : St) : X2 := AE.casesOn e (.ok .normal s) (fun id' => bif Nat.beq id' id then .ok .normal s else .ok (.exit id') s) (.ok .ret s) (fun v => .ok (.pan v) s)
noncomputable def noL (s : St) : St := St.rec (motive := fun _ => St) (fun _ T D H x => ⟨.nil, T, D, H, x⟩) s

/-- All but the last, and the last. -/
def lastOf : List Oper → Option (List Oper × Oper)
  | [] => none
  | o :: l => match lastOf l with
    | none => some ([], o)
    | some q => some (o :: q.1, q.2)

/-- A region that draws: where the last operation comes behind all others, it is taken apart. -/
noncomputable def exDraw (E : Env) (rec : Rec) (c : Ctx) (ops : Array Oper) (bef : Nat → Nat) (lo : Option (List Oper × Oper)) (s : St) : X2 :=
  match lo with
  | none => .no 312
  | some q => bif Nat.beq (Nat.succ (bef (lenO q.1 0))) (Nat.pow 2 (lenO q.1 0)) then
      goX (exNormal (drawA E rec c.nt c.km ops bef q.1 0 [] (noL s))) (bindS (opsA E rec c ops [q.2]))
    else exNormal (drawA E rec c.nt c.km ops bef ops.toList 0 [] (noL s))

noncomputable def exRegion (E : Env) (rec : Rec) (c : Ctx) (ops : Array Oper) (draw : Bool) (s : St) : X2 :=
  Bool.casesOn draw (opsA E rec c ops ops.toList (noL s))
    (bif regionOk ops.toList then exDraw E rec c ops (nthN (befL ops.toList [])) (lastOf ops.toList) s else .no 301)

abbrev CoF := Env → Rec → Ctx → St → X2

noncomputable def cSkip : CoF := fun _ _ _ s => .ok .normal s
noncomputable def cRegion (_ : Nat) (ops : Array Oper) (draw : Bool) : CoF := fun E rec c s => exRegion E rec c ops draw s
noncomputable def cSeq (a b : Code) : CoF := fun _ rec c s => goX (rec c a s) (bindS (rec c b))
noncomputable def cCond (o : Operand) (a b : Code) : CoF := fun _ rec c s => match evalT s.L s.T o with | .bool t => bif t then rec c a s else rec c b s | _ => .no 300
noncomputable def cBlock (id : Nat) (b : Code) : CoF := fun _ rec c s => goX (rec c b s) (exBlock id)
noncomputable def cLoop (b : Code) : CoF := fun _ rec c s => goX (rec c b s) (bindS (rec c (.loop b)))
noncomputable def cRange (g : Operand) (ps : Array Tmp) (asg body : Code) : CoF := fun E rec c s => rangeA E rec c g ps asg body s
noncomputable def cExit (id : Nat) : CoF := fun _ _ _ s => .ok (.exit id) s
noncomputable def cScope (b : Code) : CoF := fun _ rec c s => match c.ro with | none => rec c b s | some _ => .no 308
def cNo {α : Type} (_ : α) : CoF := fun _ _ _ _ => .no 307
noncomputable def cRet : CoF := fun _ _ _ s => .ok .ret s

noncomputable def exPlain (code : Code) : CoF :=
  Code.casesOn code cSkip cRegion cSeq cCond cBlock cLoop cRange cExit cScope (fun _ => cSkip) cNo cRet cNo

noncomputable def unRv (c : Ctx) : Ctx := ⟨c.ro, false, c.fn, c.nt, c.km⟩

/-- In a deferred call that calls 'recover': the frame's own sequence, tests and plain regions; within all else nobody recovers. -/
noncomputable def exRv (code : Code) : CoF :=
  match code with
  | .seq a b => cSeq a b
  | .cond o a b => cCond o a b
  | .region id ops false => cRegion id ops false
  | code => fun E rec c s => goX (exPlain code E rec (unRv c) ⟨s.L, s.T, [], s.H, s.x⟩) (fun e s' => bif noD s' then .ok e ⟨s'.L, s'.T, s.D, s'.H, s'.x⟩ else .no 311)

noncomputable def exStep (code : Code) : CoF := fun E rec c s => Bool.casesOn c.rv (exPlain code E rec c s) (exRv code E rec c s)

noncomputable def ex (E : Env) (k : Nat) : Rec := Nat.rec (motive := fun _ => Rec) (fun _ _ _ => .no 310) (fun _ ih c code s => exStep code E ih c s) k

/-- A call from outside, on an empty heap. -/
noncomputable def runA (E : Env) (fuel : Nat) (f : FuncId) (args : List AV) : O3 := callA E (ex E fuel) f args .e 0

/-- internal/bytealg.MakeNoZero: bytes of which nothing is known. -/
noncomputable def noZeroA (el : TypeId) : ASpec := fun args H x =>
  match args with
  | [.int .i64 (.ofNat n)] => bif Nat.ble n 1099511627776 then toN H x el (.slice x 0 n n false 1) (.ok (repS n [.junk] [])) else .no 320
  | _ => .no 321

/-- internal/bytealg.Compare. -/
noncomputable def cmpA : ASpec := fun args H x =>
  match args with
  | [a, b] => R.casesOn (strOfA H a) (fun s => R.casesOn (strOfA H b) (fun t => match s, t with
      | .str l, .str m => .ok (.int .i64 (Extern.BytealgCompare.cmp ⟨l.toArray⟩ ⟨m.toArray⟩)) H x
      | _, _ => .no 322) .no) .no
  | _ => .no 323

/-! ### Calls that are known -/

/-- A call that has been carried out: on what its arguments reach it leaves nothing but a value. -/
structure Memo where
  args : List AV
  blks : List (Nat × AB)
  v : AV

noncomputable def sameBlks (H : Hp) (l : List (Nat × AB)) : Bool := List.rec true (fun q _ ih => Option.rec false (fun b => Bool.rec false ih (eqB q.2 b.b)) (H.get q.1)) l
noncomputable def memoA (l : List Memo) : ASpec :=
  List.rec (motive := fun _ => ASpec) (fun _ _ _ => .no 370) (fun e _ ih args H x => Bool.rec (ih args H x) (Bool.rec (ih args H x) (.ok e.v H x) (sameBlks H e.blks)) (eqL (eqV 32) e.args args)) l

noncomputable def heapOf : List (Nat × AB) → Hp → Hp
  | [], H => H
  | q :: l, H => heapOf l (H.ins dH q.1 ⟨0, q.2⟩)

noncomputable def belowB (x : Nat) : List (Nat × AB) → Bool
  | [] => true
  | q :: l => bif Nat.blt q.1 x then (match q.2 with
      | .cells _ m => bif allL (below x 32) m then belowB x l else false
      | .map m _ => bif belowE x m then belowB x l else false
      | _ => false) else false

noncomputable def memoRun (p : Hp) (v : AV) (r : O3) : Bool :=
  match r with
  | .ok u q _ => bif eqV 32 v u then (match deltaOld p q (p.keys []) [] with | [] => true | _ => false) else false
  | _ => false

/-- What an entry's run must come to. -/
noncomputable def memoOk (E : Env) (k : Nat) (f : FuncId) (x : Nat) (e : Memo) : Bool :=
  bif allL (below x 32) e.args then bif belowB x e.blks then bif below x 32 e.v then
    (heapOf e.blks .e).force fun p => memoRun p e.v (bodyCallA E (ex E k) f e.args p x)
  else false else false else false

noncomputable def isTrue : O3 → Bool
  | .ok (.bool true) _ _ => true
  | _ => false

end Go.Ce
