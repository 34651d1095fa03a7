import Derived.OwnWalk
import Derived.Orders
import Derived.Below
import Derived.Deep.Draws
import Derived.Maps.AppendAt
import Derived.Laws.Concat
import Derived.Laws.BytesString
import Derived.Laws.StructEq
/- The abstract executor: data types, abstract values, abstract heap, the verification conditions of a body. Nothing of a program in it. -/
set_option linter.unusedVariables false
set_option linter.unusedSimpArgs false
namespace Go.Eng

/-! ## Data -/
inductive Ty where
  | bool | int (k : IntKind) | str | slice (e : Ty) | pair (a b : Ty)
  deriving DecidableEq

@[reducible] def Ty.den : Ty → Type
  | .bool => Bool
  | .int _ => Int
  | .str => List UInt8
  | .slice e => List e.den
  | .pair a b => a.den × b.den

def Ty.dflt : (t : Ty) → t.den
  | .bool => false
  | .int _ => (0 : Int)
  | .str => []
  | .slice _ => []
  | .pair a b => (a.dflt, b.dflt)

def Ty.cells : Ty → Nat
  | .pair a b => a.cells + b.cells
  | _ => 1

/-- What the program says of a type. -/
inductive ZC where
  | b | i (k : IntKind) | s | sl | p | f | m | x
  deriving DecidableEq
inductive TD where
  | bool | int (k : IntKind) | str | slice (e : TypeId) | ptr (e : TypeId) | struct (fs : List (TypeId × Nat)) | arr (n : Nat) (e : TypeId) | map (k e : TypeId) | other
  deriving DecidableEq
structure TI where
  d : TD
  size : Nat
  bytes : Nat
  zero : List ZC
  row : Option Ty
  eq : Bool
  deriving DecidableEq

def zcOf : Value → ZC
  | .bool false => .b
  | .int k 0 => .i k
  | .string ⟨⟨[]⟩⟩ => .s
  | .slice none 0 0 => .sl
  | .pointer none => .p
  | .nilFunc => .f
  | .map none => .m
  | _ => .x
def tdOf : TypeDesc → TD
  | .bool => .bool
  | .int k => .int k
  | .string => .str
  | .slice e => .slice e
  | .pointer e => .ptr e
  | .struct fs => .struct (fs.toList.map fun f => (f.type, f.offset))
  | .array n e => .arr n e
  | .map k e => .map k e
  | _ => .other
def rowFold (row : TypeId → Option Ty) : List TypeId → Option Ty
  | [] => none
  | f :: r => match r with
    | [] => row f
    | _ => (row f).bind fun a => (rowFold row r).map (Ty.pair a)
/-- The data type of a type, if it is plain data. -/
def rowOf (P : Program) : Nat → TypeId → Option Ty
  | 0, _ => none
  | n + 1, t =>
    match P.underlying t with
    | some .bool => some .bool
    | some (.int k) => some (.int k)
    | some .string => some .str
    | some (.slice e) => (rowOf P n e).map .slice
    | some (.struct fs) => rowFold (rowOf P n) (fs.toList.map (·.type))
    | some (.array m e) => rowFold (rowOf P n) (List.replicate m e)
    | _ => none
/-- May '==' of this struct type be told field by field? -/
def eqOf (P : Program) (t : TypeId) : TypeDesc → Bool
  | .struct fs => !P.stoodInHeld t && !P.eqGuardType P.depth t && fs.toList.all fun f => f.name != "_"
  | .map _ e => match P.info? e with
    | some i => match i.zero with
      | some (.bool false) => true
      | _ => false
    | none => false
  | _ => false
def tiOf (P : Program) (t : TypeId) : Option TI :=
  match P.info? t, P.underlying t with
  | some inf, some u => match inf.zero with
    | some z => some ⟨tdOf u, inf.size, inf.bytes, z.cells.toList.map zcOf, rowOf P 8 t, eqOf P t u⟩
    | none => none
  | _, _ => none

abbrev Tab := List (TypeId × TI)
def lookN {α : Type} : List (Nat × α) → Nat → Option α
  | [], _ => none
  | (k, v) :: r, t => match Nat.beq k t with
    | true => some v
    | false => lookN r t
def Tab.ti (T : Tab) (t : TypeId) : Option TI := lookN T t
def TabOk (P : Program) (T : Tab) : Prop := ∀ t i, T.ti t = some i → tiOf P t = some i

/-! ## Abstract values and objects -/
inductive V where
  | any
  | bl (x : Bool) | b (x : Bool) | i (k : IntKind) (n : Int) | s (l : List UInt8)
  | sl (e : Ty) (xs : List e.den)
  | nil
  | np
  /-- No function; no map. -/
  | nf
  | nm
  | own (id : Nat)
  | ptr (id col : Nat)
  | rp (cs : List V)
  | ep (id : Nat) (e : Ty) (row col : Nat)
  | fn (f : FuncId) (caps : List V)
  | lam (a b : Ty) (h : a.den → b.den)
  | agg (cs : List V)
  | tup (vs : List V)
  | mp (id : Nat)
  /-- A part of a slice that is one's own: from a row on, so many rows; is all the room behind it its own? -/
  | vw (id : Nat) (e : Ty) (lo n : Nat) (full : Bool)

inductive Obj where
  | box (cells : List V)
  | arr (te : TypeId) (e : Ty) (xs : List e.den)
  | ice (e : Ty) (xs : List e.den)
  | map (k e : Ty) (l : List (k.den × e.den))
  /-- A slice that is one's own, with all its room: of some rows nothing is known. -/
  | raw (te : TypeId) (e : Ty) (xs : List (Option e.den))

abbrev Env := List (Nat × V)
abbrev Heap := List (Nat × Obj)

def V.cells : V → List V
  | .agg cs => cs
  | v => [v]
def ofDen : (e : Ty) → e.den → List V
  | .bool, x => [.b x]
  | .int k, n => [.i k n]
  | .str, l => [.s l]
  | .slice e, xs => [.sl e xs]
  | .pair a b, x => ofDen a x.1 ++ ofDen b x.2
/-- A row of a slice: one cell bare, more as an aggregate. -/
def vOfDen (e : Ty) (x : e.den) : V :=
  match e with
  | .pair a b => .agg (ofDen (.pair a b) x)
  | .bool => .b x
  | .int k => .i k x
  | .str => .s x
  | .slice e => .sl e x

def castO (e e' : Ty) (xs : List (Option e.den)) : Option (List (Option e'.den)) :=
  match decEq e e' with
  | isTrue h => h ▸ some xs
  | isFalse _ => none
def castM (k k' e e' : Ty) (l : List (k.den × e.den)) : Option (List (k'.den × e'.den)) :=
  match decEq k k', decEq e e' with
  | isTrue h, isTrue h' => h ▸ h' ▸ some l
  | _, _ => none
def castL (e e' : Ty) (xs : List e.den) : Option (List e'.den) :=
  match decEq e e' with
  | isTrue h => h ▸ some xs
  | isFalse _ => none

/-- What a slice value reads as. 'own': may it be one that can still be written? -/
def viewL (h : Heap) (own : Bool) (e : Ty) : V → Option (List e.den)
  | .sl e' xs => castL e' e xs
  | .nil => some []
  | .own id => match lookN h id with
    | some (.ice e' xs) => castL e' e xs
    | some (.arr _ e' xs) => match own with
      | true => castL e' e xs
      | false => none
    | _ => none
  | _ => none
def toDen (h : Heap) (own : Bool) : (e : Ty) → List V → Option (e.den × List V)
  | .bool, .b x :: r => some (x, r)
  | .bool, .bl x :: r => some (x, r)
  | .int k, .i k' n :: r => if k' = k then some (n, r) else none
  | .str, .s l :: r => some (l, r)
  | .slice e, v :: r => match viewL h own e v with
    | some xs => some (xs, r)
    | none => none
  | .pair a b, cs => match toDen h own a cs with
    | some (x, r) => match toDen h own b r with
      | some (y, r') => some ((x, y), r')
      | none => none
    | none => none
  | _, _ => none

/-! ## The verification conditions' own words -/
@[irreducible] def Leaf (p : Prop) : Prop := p
@[irreducible] def Ev (p : Prop) : Prop := p
theorem Leaf.mk {p : Prop} (h : p) : Leaf p := by unfold Leaf; exact h
theorem Leaf.out {p : Prop} (h : Leaf p) : p := by unfold Leaf at h; exact h
theorem Ev.mk {p : Prop} (h : p) : Ev p := by unfold Ev; exact h
theorem Ev.out {p : Prop} (h : Ev p) : p := by unfold Ev at h; exact h
def conj (l : List Prop) (K : Prop) : Prop :=
  List.rec (motive := fun _ => Prop) K (fun c _ ih => Leaf c ∧ Ev ih) l
theorem conj_nil (K : Prop) : conj [] K = K := rfl
theorem conj_cons (c : Prop) (cs : List Prop) (K : Prop) : conj (c :: cs) K = (Leaf c ∧ Ev (conj cs K)) := rfl

/-- Is it a number of its kind? -/
def inK : IntKind → Int → Bool
  | .i8, n => decide (-128 ≤ n) && decide (n ≤ 127)
  | .i16, n => decide (-32768 ≤ n) && decide (n ≤ 32767)
  | .i32, n => decide (-2147483648 ≤ n) && decide (n ≤ 2147483647)
  | .i64, n => decide (-9223372036854775808 ≤ n) && decide (n ≤ 9223372036854775807)
  | .u8, n => decide (0 ≤ n) && decide (n ≤ 255)
  | .u16, n => decide (0 ≤ n) && decide (n ≤ 65535)
  | .u32, n => decide (0 ≤ n) && decide (n ≤ 4294967295)
  | .u64, n => decide (0 ≤ n) && decide (n ≤ 18446744073709551615)
theorem inK_iff (k : IntKind) (n : Int) : inK k n = true ↔ k.min ≤ n ∧ n ≤ k.max := by
  cases k <;> simp [inK, IntKind.min, IntKind.max, IntKind.signed, IntKind.bits]

def constV : Value → V
  | .bool x => .bl x
  | .int k n => match inK k n with
    | true => .i k n
    | false => .any
  | .string ⟨⟨l⟩⟩ => match Nat.ble l.length 100000 with
    | true => .s l
    | false => .any
  | .slice none 0 0 => .nil
  | .pointer none => .np
  | .nilFunc => .nf
  | .map none => .nm
  | _ => .any
def rd (env : Env) : Operand → V
  | .tmp t => (lookN env t).getD .any
  | .const v => constV v
  | .global _ => .any
  | .func f => .fn f []

def ibits (op : BinOp) (k : IntKind) (x y : Int) : Int :=
  let a := BitVec.ofInt k.bits x
  let b := BitVec.ofInt k.bits y
  k.wrap (match op with
    | .and => (a &&& b).toNat
    | .or => (a ||| b).toNat
    | .xor => (a ^^^ b).toNat
    | _ => (a &&& ~~~b).toNat : Nat)
/-- Strings: the first stands ahead of the second. -/
abbrev sless (a b : List UInt8) : Bool := Op.bytesLess a b

abbrev R := Option (List Prop × V × Heap)
def ok1 (h : Heap) (v : V) : R := some ([], v, h)

def binInt (op : BinOp) (k : IntKind) (a b : Int) : Option (List Prop × V) :=
  match op with
  | .add => some ([], .i k (k.wrap (a + b)))
  | .sub => some ([], .i k (k.wrap (a - b)))
  | .mul => some ([], .i k (k.wrap (a * b)))
  | .quo => some ([b ≠ 0], .i k (k.wrap (a.tdiv b)))
  | .rem => some ([b ≠ 0, inK k (a.tmod b) = true], .i k (a.tmod b))
  | .and => some ([], .i k (ibits .and k a b))
  | .or => some ([], .i k (ibits .or k a b))
  | .xor => some ([], .i k (ibits .xor k a b))
  | .andNot => some ([], .i k (ibits .andNot k a b))
  | .eql => some ([], .b (a == b))
  | .neq => some ([], .b (a != b))
  | .lss => some ([], .b (decide (a < b)))
  | .leq => some ([], .b (decide (a ≤ b)))
  | .gtr => some ([], .b (decide (a > b)))
  | .geq => some ([], .b (decide (a ≥ b)))
  | _ => none
def binStr (op : BinOp) (a b : List UInt8) : Option (List Prop × V) :=
  match op with
  | .add => some ([a.length + b.length ≤ maxLen], .s (a ++ b))
  | .eql => some ([], .b (a == b))
  | .neq => some ([], .b (!(a == b)))
  | .lss => some ([], .b (sless a b))
  | .leq => some ([], .b (sless a b || a == b))
  | .gtr => some ([], .b (!(sless a b || a == b)))
  | .geq => some ([], .b (!(sless a b)))
  | _ => none
def vbool : V → Option Bool
  | .b x => some x
  | .bl x => some x
  | _ => none
/-- Two cells of a field of plain kind: are they equal? -/
def fieldEq : TD → V → V → Option Bool
  | .int _, .i k a, .i k' b => if k = k' then some (a == b) else none
  | .str, .s a, .s b => some (a == b)
  | .bool, v, w => match vbool v, vbool w with
    | some x, some y => some (x == y)
    | _, _ => none
  | _, _, _ => none
/-- Fields of one cell each, of plain kinds, one behind the other, compared. -/
def flatEq (T : Tab) : Nat → List (TypeId × Nat) → List V → List V → Option Bool
  | _, [], [], [] => some true
  | n, [(ft, off)], [x], [y] => match T.ti ft with
    | some i => match Nat.beq off n with
      | true => fieldEq i.d x y
      | false => none
    | none => none
  | n, (ft, off) :: r, x :: xs, y :: ys => match T.ti ft with
    | some i => match Nat.beq off n, fieldEq i.d x y, flatEq T (n + 1) r xs ys with
      | true, some p, some q => some (p && q)
      | _, _, _ => none
    | none => none
  | _, _, _, _ => none
def shiftV (op : BinOp) (k : IntKind) (a b : Int) : Option (List Prop × V) :=
  match op with
  | .shl => some ([0 ≤ b], .i k (k.wrap (a * 2 ^ (min b.toNat k.bits))))
  | .shr => some ([0 ≤ b, inK k (a.fdiv (2 ^ (min b.toNat k.bits))) = true], .i k (a.fdiv (2 ^ (min b.toNat k.bits))))
  | _ => none
def binV (T : Tab) (op : BinOp) (t : TypeId) (x y : V) : Option (List Prop × V) :=
  match x, y with
  | .i k a, .i k' b => match op with
    | .shl => shiftV .shl k a b
    | .shr => shiftV .shr k a b
    | op => if k = k' then binInt op k a b else none
  | .s a, .s b => binStr op a b
  | .agg xs, .agg ys => match T.ti t with
    | some ⟨.struct fs, _, _, _, _, true⟩ => match op, flatEq T 0 fs xs ys with
      | .eql, some p => some ([], .b p)
      | .neq, some p => some ([], .b (!p))
      | _, _ => none
    | _ => none
  | .ptr _ _, .np => match T.ti t with
    | some ⟨.ptr _, _, _, _, _, _⟩ => match op with
      | .eql => some ([], .bl false)
      | .neq => some ([], .bl true)
      | _ => none
    | _ => none
  | x, y => match T.ti t with
    | some ⟨.bool, _, _, _, _, _⟩ => match op, vbool x, vbool y with
      | .eql, some p, some q => some ([], .b (p == q))
      | .neq, some p, some q => some ([], .b (!(p == q)))
      | _, _, _ => none
    | _ => none

def zeroV : ZC → V
  | .b => .bl false
  | .i k => .i k 0
  | .s => .s []
  | .sl => .nil
  | .p => .np
  | .f => .nf
  | .m => .nm
  | _ => .any
def isAggD : TD → Bool
  | .struct _ => true
  | .arr _ _ => true
  | _ => false
def mkV (d : TD) (cs : List V) : Option V :=
  match isAggD d with
  | true => some (.agg cs)
  | false => match cs with
    | [c] => some c
    | _ => none
def V.one : V → Bool
  | .any | .agg _ | .tup _ => false
  | _ => true
def setAt (cs : List V) (col : Nat) (news : List V) : List V :=
  cs.take col ++ news ++ cs.drop (col + news.length)

def setObj : Heap → Nat → Obj → Heap
  | [], _, _ => []
  | (k, o) :: r, id, o' => match Nat.beq k id with
    | true => (k, o') :: r
    | false => (k, o) :: setObj r id o'
def delObj : Heap → Nat → Heap
  | [], _ => []
  | (k, o) :: r, id => match Nat.beq k id with
    | true => delObj r id
    | false => (k, o) :: delObj r id
/-- All own slices among these cells frozen. -/
def freezeAll : Heap → List V → Heap
  | h, [] => h
  | h, .own id :: r => match lookN h id with
    | some (.arr _ e xs) => freezeAll (setObj h id (.ice e xs)) r
    | _ => freezeAll h r
  | h, _ :: r => freezeAll h r

/-- A field of a struct type: its type, where it begins; it is not empty. -/
def fieldOff (T : Tab) (t : TypeId) (f : Nat) : Option (TypeId × Nat) :=
  match T.ti t with
  | some ⟨.struct fs, _, _, _, _, _⟩ => match fs[f]? with
    | some (ft, off) => match T.ti ft with
      | some i => match i.size with
        | 0 => none
        | _ + 1 => some (ft, off)
      | none => none
    | none => none
  | _ => none

def mkR (c : List Prop) (d : TD) (cs : List V) : R :=
  match mkV d cs with
  | some v => some (c, v, [])
  | none => none
def loadV (T : Tab) (t : TypeId) (a : V) (h : Heap) : R :=
  match T.ti t with
  | none => none
  | some i => match a with
    | .ptr id col => match lookN h id with
      | some (.box cs) => match Nat.ble (col + i.size) cs.length with
        | true => mkR [] i.d ((cs.drop col).take i.size)
        | false => none
      | _ => none
    | .rp cs => match Nat.ble i.size cs.length with
      | true => mkR [] i.d (cs.take i.size)
      | false => none
    | .ep id e row col => match lookN h id with
      | some (.arr _ e' xs) => match castL e' e xs with
        | some xs => match Nat.ble (col + i.size) e.cells with
          | true => mkR [row < xs.length] i.d (((ofDen e (xs.getD row e.dflt)).drop col).take i.size)
          | false => none
        | none => none
      | _ => none
    | _ => none
def storeV (T : Tab) (t : TypeId) (a x : V) (h : Heap) : R :=
  match T.ti t with
  | none => none
  | some i => match Nat.beq x.cells.length i.size && x.cells.all V.one with
    | false => none
    | true => match a with
      | .ptr id col => match lookN h id with
        | some (.box cs) => match Nat.ble (col + i.size) cs.length with
          | true => ok1 (setObj h id (.box (setAt cs col x.cells))) .any
          | false => none
        | _ => none
      | .ep id e row col => match lookN (freezeAll h x.cells) id with
        | some (.arr te e' xs) => match castL e' e xs with
          | some xs => match Nat.ble (col + i.size) e.cells with
            | true => match toDen (freezeAll h x.cells) false e (setAt (ofDen e (xs.getD row e.dflt)) col x.cells) with
              | some (y, []) => some ([row < xs.length], .any, setObj (freezeAll h x.cells) id (.arr te e (xs.set row y)))
              | _ => none
            | false => none
          | none => none
        | _ => none
      | _ => none

/-- A slice type: its elements' type, their data type, their bytes, their zero cells. -/
def elemT (T : Tab) (t : TypeId) : Option (TypeId × Ty × Nat × List ZC) :=
  match T.ti t with
  | some ⟨.slice te, _, _, _, _, _⟩ => match T.ti te with
    | some ⟨_, size, bytes, zero, some e, _⟩ => match Nat.beq size e.cells && Nat.blt 0 size && Nat.beq zero.length size with
      | true => some (te, e, bytes, zero)
      | false => none
    | _ => none
  | _ => none

def indexAddrV (T : Tab) (t : TypeId) (x ix : V) (h : Heap) : R :=
  match ix with
  | .i _ n => match elemT T t with
    | some (_, e, _, _) => match x with
      | .sl e' xs => match castL e' e xs with
        | some xs => some ([0 ≤ n, n < xs.length], .rp (ofDen e (xs.getD n.toNat e.dflt)), [])
        | none => none
      | .own id => match lookN h id with
        | some (.arr _ e' xs) => match castL e' e xs with
          | some xs => some ([0 ≤ n, n < xs.length], .ep id e n.toNat 0, [])
          | none => none
        | some (.ice e' xs) => match castL e' e xs with
          | some xs => some ([0 ≤ n, n < xs.length], .rp (ofDen e (xs.getD n.toNat e.dflt)), [])
          | none => none
        | _ => none
      | _ => none
    | none => match T.ti t with
      | some ⟨.arr m te, _, _, _, _, _⟩ => match T.ti te, x, n with
        | some i, .ptr id col, .ofNat k => match Nat.blt k m with
          | true => some ([], .ptr id (col + k * i.size), [])
          | false => none
        | _, _, _ => none
      | _ => none
  | _ => none

def indexV (ix x : V) : Option (List Prop × V) :=
  match x, ix with
  | .s l, .i _ n => some ([0 ≤ n, n < l.length], .i .u8 ((l.getD n.toNat 0).toNat : Int))
  | _, _ => none

def optInt : Option V → Int → Option Int
  | none, d => some d
  | some (.i _ n), _ => some n
  | _, _ => none
/-- A cut of a string, of a frozen slice, of data. -/
def sliceV (T : Tab) (t : TypeId) (x : V) (lo hi mx : Option V) (h : Heap) : R :=
  match mx with
  | some _ => none
  | none => match x with
    | .s l => match T.ti t with
      | some ⟨.str, _, _, _, _, _⟩ => match optInt lo 0, optInt hi l.length with
        | some a, some b => some ([0 ≤ a, a ≤ b, b ≤ l.length], .s ((l.take b.toNat).drop a.toNat), [])
        | _, _ => none
      | _ => none
    | x => match elemT T t with
      | some (_, e, _, _) => match viewL h false e x with
        | some xs => match optInt lo 0, optInt hi xs.length with
          | some a, some b => some ([0 ≤ a, a ≤ b, b ≤ xs.length], .sl e ((xs.take b.toNat).drop a.toNat), [])
          | _, _ => none
        | none => none
      | none => none
/-- A cut of one's own slice: from its head: it stays one's own; from elsewhere: it is frozen. -/
def sliceOwnV (T : Tab) (t : TypeId) (x : V) (lo hi mx : Option V) (fresh : Nat) (h : Heap) : R :=
  match mx, x, elemT T t with
  | none, .own id, some (_, e, _, _) => match lookN h id with
    | some (.arr te' e' xs) => match castL e' e xs with
      | some xs => match lo with
        | none => match optInt hi xs.length with
          | some b => some ([0 ≤ b, b ≤ xs.length], .own fresh, (fresh, .arr te' e (xs.take b.toNat)) :: delObj h id)
          | none => none
        | some lo => match optInt (some lo) 0, optInt hi xs.length with
          | some a, some b => some ([0 ≤ a, a ≤ b, b ≤ xs.length], .sl e ((xs.take b.toNat).drop a.toNat), setObj h id (.ice e xs))
          | _, _ => none
      | none => none
    | _ => none
  | _, _, _ => none

def isSliceD : TD → Bool
  | .slice _ => true
  | _ => false
def lenV (T : Tab) (t : TypeId) (x : V) (h : Heap) : R :=
  match T.ti t with
  | none => none
  | some i => match x with
    | .s l => match i.d with
      | .str => some ([], .i .i64 (l.length : Int), [])
      | _ => none
    | .sl _ xs => match isSliceD i.d with
      | true => some ([], .i .i64 (xs.length : Int), [])
      | false => none
    | .nil => match isSliceD i.d with
      | true => some ([], .i .i64 0, [])
      | false => none
    | .own id => match isSliceD i.d with
      | true => match lookN h id with
        | some (.arr _ _ xs) => some ([], .i .i64 (xs.length : Int), [])
        | some (.ice _ xs) => some ([], .i .i64 (xs.length : Int), [])
        | _ => none
      | false => none
    | _ => none

def bytesOfStr (l : List UInt8) : List Int := l.map fun c => (c.toNat : Int)
def strOfBytes (l : List Int) : List UInt8 := l.map fun n => UInt8.ofNat n.toNat

def appendV (T : Tab) (t : TypeId) (s x : V) (fresh : Nat) (h : Heap) : R :=
  match elemT T t with
  | some (te, e, bytes, _) => match viewL h true e x with
    | none => none
    | some ys => match s with
      | .nil => some ([ys.length * bytes ≤ 140737488355328, ys.length ≤ maxLen], .own fresh, (fresh, .arr te e ys) :: h)
      | .own id => match lookN h id with
        | some (.arr te' e' xs) => match Nat.beq te te', castL e' e xs with
          | true, some xs => some ([(xs.length + ys.length) * bytes ≤ 140737488355328, xs.length + ys.length ≤ maxLen], .own fresh, (fresh, .arr te e (xs ++ ys)) :: delObj h id)
          | _, _ => none
        | _ => none
      | _ => none
  | none => none

def copyV (T : Tab) (t : TypeId) (d x : V) (h : Heap) : R :=
  match elemT T t with
  | some (te, e, _, _) => match viewL h true e x with
    | none => none
    | some ys => match d with
      | .own id => match lookN h id with
        | some (.arr te' e' xs) => match Nat.beq te te', castL e' e xs with
          | true, some xs => some ([], .i .i64 ((min ys.length xs.length : Nat) : Int), setObj h id (.arr te e (ys.take xs.length ++ xs.drop ys.length)))
          | _, _ => none
        | _ => none
      | _ => none
  | none => none

def convV (T : Tab) (src dst : TypeId) (x : V) (h : Heap) : R :=
  match T.ti src, T.ti dst with
  | some si, some di => match di.d, x with
    | .int k, .i _ n => some ([], .i k (k.wrap n), [])
    | .str, .s l => match si.d with
      | .str => some ([], .s l, [])
      | _ => none
    | .slice te, .s l => match si.d, T.ti te with
      | .str, some ⟨.int .u8, _, _, _, _, _⟩ => some ([l.length ≤ 140737488355328], .sl (.int .u8) (bytesOfStr l), [])
      | _, _ => none
    | .str, x => match si.d with
      | .slice te => match T.ti te with
        | some ⟨.int .u8, _, _, _, _, _⟩ => match viewL h true (.int .u8) x with
          | some xs => some ([], .s (strOfBytes xs), [])
          | none => none
        | _ => none
      | _ => none
    | _, _ => none
  | _, _ => none

/-- A row of bytes seen as its own type (a constant's bytes): nobody writes it any more. -/
def convOwnV (T : Tab) (src dst : TypeId) (x : V) (h : Heap) : R :=
  match Nat.beq src dst, T.ti src, x with
  | true, some ⟨.slice te, _, _, _, _, _⟩, .own id => match T.ti te, lookN h id with
    | some ⟨.int .u8, _, _, _, _, _⟩, some (.arr _ (.int .u8) xs) => some ([0 < xs.length], .sl (.int .u8) xs, setObj h id (.ice (.int .u8) xs))
    | _, _ => none
  | _, _, _ => none

def unV (op : UnOp) (x : V) : Option (List Prop × V) :=
  match op, x with
  | .not, .bl x => some ([], match x with | true => .bl false | false => .bl true)
  | .not, .b x => some ([], .b (!x))
  | .neg, .i k n => some ([], .i k (k.wrap (0 - n)))
  | _, _ => none

def fillV (places : Nat → Option (Nat × Nat)) : List (Nat × V) → List V → Option (List V)
  | [], cs => some cs
  | (j, v) :: r, cs => match places j with
    | some (off, size) => match Nat.beq v.cells.length size && v.cells.all V.one && Nat.ble (off + size) cs.length with
      | true => fillV places r (setAt cs off v.cells)
      | false => none
    | none => none

def placesT (T : Tab) : List (TypeId × Nat) → Option (List (Nat × Nat))
  | [] => some []
  | (ft, off) :: r => match T.ti ft, placesT T r with
    | some i, some ps => some ((off, i.size) :: ps)
    | _, _ => none
def buildV (T : Tab) (t : TypeId) (parts : List (Nat × V)) : R :=
  match T.ti t with
  | some ⟨.struct fs, _, _, zero, _, _⟩ => match placesT T fs with
    | none => none
    | some ps => match fillV (fun j => ps[j]?) parts (zero.map zeroV) with
      | some cs => match (zero.map zeroV).all V.one with
        | true => some ([], .agg cs, [])
        | false => none
      | none => none
  | _ => none
/-- All rows of so many cells. -/
def toRows (h : Heap) (e : Ty) : Nat → List V → Option (List e.den)
  | 0, [] => some []
  | 0, _ => none
  | n + 1, cs => match toDen h false e cs with
    | some (x, r) => match toRows h e n r with
      | some xs => some (x :: xs)
      | none => none
    | none => none
def repL {α : Type} (l : List α) : Nat → List α
  | 0 => []
  | n + 1 => l ++ repL l n
def buildSliceV (T : Tab) (frz : Bool) (t : TypeId) (len : Nat) (parts : List (Nat × V)) (fresh : Nat) (h : Heap) : R :=
  match elemT T t with
  | some (te, e, _, zero) =>
    match fillV (fun j => some (j * e.cells, e.cells)) parts (repL (zero.map zeroV) len), Nat.ble (len * e.cells) 16777216 && (zero.map zeroV).all V.one with
    | some cs, true => match frz with
      | false => match toRows h e len cs with
        | some xs => some ([], .own fresh, [(fresh, .arr te e xs)])
        | none => none
      | true => match toRows (freezeAll h cs) e len cs with
        | some xs => some ([], .own fresh, (fresh, .arr te e xs) :: freezeAll h cs)
        | none => none
    | _, _ => none
  | none => none

def fieldV (T : Tab) (t : TypeId) (x : V) (f : Nat) : Option V :=
  match x, fieldOff T t f with
  | .agg cs, some (ft, off) => match T.ti ft with
    | some i => match Nat.ble (off + i.size) cs.length with
      | true => mkV i.d ((cs.drop off).take i.size)
      | false => none
    | none => none
  | _, _ => none
def fieldAddrV (T : Tab) (t : TypeId) (x : V) (f : Nat) : Option V :=
  match x, fieldOff T t f with
  | .ptr id col, some (_, off) => some (.ptr id (col + off))
  | .rp cs, some (_, off) => some (.rp (cs.drop off))
  | .ep id e row col, some (_, off) => some (.ep id e row (col + off))
  | _, _ => none

def makeSliceV (T : Tab) (t : TypeId) (l c : V) (fresh : Nat) : R :=
  match elemT T t, l, c with
  | some (te, e, bytes, zero), .i _ l, .i _ c => match (zero.map zeroV).all V.one, toDen [] false e (zero.map zeroV) with
    | true, some (z, []) => some ([0 ≤ l, l ≤ c, c * bytes ≤ 140737488355328, c ≤ 140737488355328], .own fresh, [(fresh, .arr te e (List.replicate l.toNat z))])
    | _, _ => none
  | _, _, _ => none

def extremeV (mx : Bool) (x y : V) : Option V :=
  match x, y with
  | .i k a, .i k' b => if k = k' then some (.i k (match mx with | true => (if b > a then b else a) | false => (if b < a then b else a))) else none
  | .s a, .s b => some (.s (match mx with | true => (if !(sless a b) then a else b) | false => (if sless a b || a == b then a else b)))
  | _, _ => none

/-! ## Specifications of the functions that are called -/
/-- 'q' hands back what is new in the heap alone; 'l' the whole heap as it is behind the call; 'k' is told what is asked of what is behind. -/
structure Spec where
  q : List V → Heap → Nat → R
  l : List V → Heap → Nat → R
  k : List V → Heap → Nat → (V → Heap → Prop) → Prop
def noK : List V → Heap → Nat → (V → Heap → Prop) → Prop := fun _ _ _ _ => False
abbrev Specs := FuncId → Option Spec

def shapeV : Ty → V → Bool
  | .pair _ _, .agg cs => cs.all V.one
  | .pair _ _, _ => false
  | _, v => v.one
def callV (S : Specs) (quiet : Bool) (f : V) (args : List V) (fresh : Nat) (h : Heap) : R :=
  match f with
  | .fn g caps => match S g with
    | some s => match quiet with
      | true => s.q (args ++ caps) h fresh
      | false => s.l (args ++ caps) h fresh
    | none => none
  | .lam a b p => match quiet with
    | true => match args with
      | [x] => match shapeV a x, toDen h false a x.cells with
        | true, some (y, []) => some ([], vOfDen b (p y), [])
        | _, _ => none
      | _ => none
    | false => none
  | _ => none

def r2 : Option (List Prop × V) → R
  | some (c, v) => some (c, v, [])
  | none => none
def r1 : Option V → R
  | some v => some ([], v, [])
  | none => none

/-- What an operation does that turns nothing that is there: the conditions, the value, what is new in the heap. -/
def stepQ1 (T : Tab) (S : Specs) (o : Oper) (fresh : Nat) (env : Env) (h : Heap) : R :=
  match o.op with
  | .move x | .assign x => some ([], rd env x, [])
  | .pick c a b => match rd env c with
    | .bl true => some ([], rd env a, [])
    | .bl false => some ([], rd env b, [])
    | _ => none
  | .alloc te => match T.ti te with
    | some i => match (i.zero.map zeroV).all V.one with
      | true => some ([], .ptr fresh 0, [(fresh, .box (i.zero.map zeroV))])
      | false => none
    | none => none
  | .box _ x => match (rd env x).cells.all V.one with
    | true => some ([], .ptr fresh 0, [(fresh, .box (rd env x).cells)])
    | false => none
  | .build t parts => buildV T t (parts.toList.map fun p => (p.1, rd env p.2))
  | .buildSlice t len parts => buildSliceV T false t len (parts.toList.map fun p => (p.1, rd env p.2)) fresh h
  | .load t a => loadV T t (rd env a) h
  | .nilCheck x => match rd env x with
    | .ptr id col => some ([], .ptr id col, [])
    | .rp cs => some ([], .rp cs, [])
    | .ep id e r c => some ([], .ep id e r c, [])
    | _ => none
  | .binOp op t x y _ => r2 (binV T op t (rd env x) (rd env y))
  | .unOp op _ x => r2 (unV op (rd env x))
  | .convert src dst x => convV T src dst (rd env x) h
  | .makeFunc (.func f) first caps => match first.toList with
    | [] => some ([], .fn f (caps.toList.map (rd env)), [])
    | _ => none
  | .makeSlice t l c => makeSliceV T t (rd env l) (rd env c) fresh
  | .slice t x lo hi mx => sliceV T t (rd env x) (lo.map (rd env)) (hi.map (rd env)) (mx.map (rd env)) h
  | .fieldAddr t x f => r1 (fieldAddrV T t (rd env x) f)
  | .field t x f => r1 (fieldV T t (rd env x) f)
  | .indexAddr t x ix => indexAddrV T t (rd env x) (rd env ix) h
  | .index t x ix => match T.ti t with
    | some ⟨.str, _, _, _, _, _⟩ => r2 (indexV (rd env ix) (rd env x))
    | _ => none
  | .extract x j => match rd env x with
    | .tup vs => r1 vs[j]?
    | _ => none
  | .call ⟨.builtin .len, args, ts⟩ => match args.toList, ts.toList with
    | [x], [t] => lenV T t (rd env x) h
    | _, _ => none
  | .call ⟨.builtin .max, args, _⟩ => match args.toList with
    | [x, y] => r1 (extremeV true (rd env x) (rd env y))
    | _ => none
  | .call ⟨.builtin .min, args, _⟩ => match args.toList with
    | [x, y] => r1 (extremeV false (rd env x) (rd env y))
    | _ => none
  | .call ⟨.value f, args, _⟩ => callV S true (rd env f) (args.toList.map (rd env)) fresh h
  | _ => none
/-- What an operation does that turns what is there: the whole heap behind it. -/
def stepW1 (T : Tab) (S : Specs) (o : Oper) (fresh : Nat) (env : Env) (h : Heap) : R :=
  match o.op with
  | .store t a x => storeV T t (rd env a) (rd env x) h
  | .buildSlice t len parts => buildSliceV T true t len (parts.toList.map fun p => (p.1, rd env p.2)) fresh h
  | .convert src dst x => convOwnV T src dst (rd env x) h
  | .slice t x lo hi mx => sliceOwnV T t (rd env x) (lo.map (rd env)) (hi.map (rd env)) (mx.map (rd env)) fresh h
  | .call ⟨.builtin .append, args, ts⟩ => match args.toList, ts.toList with
    | [s, x], [t, t'] => match Nat.beq t t' with
      | true => appendV T t (rd env s) (rd env x) fresh h
      | false => none
    | _, _ => none
  | .call ⟨.builtin .copy, args, ts⟩ => match args.toList, ts.toList with
    | [s, x], [t, t'] => match Nat.beq t t' with
      | true => copyV T t (rd env s) (rd env x) h
      | false => none
    | _, _ => none
  | .call ⟨.value f, args, _⟩ => callV S false (rd env f) (args.toList.map (rd env)) fresh h
  | _ => none

/-! ## Slices with their room; maps -/
def zeroD (e : Ty) (zero : List ZC) : Option e.den :=
  match (zero.map zeroV).all V.one, toDen [] false e (zero.map zeroV) with
  | true, some (z, []) => some z
  | _, _ => none
/-- The rows that a slice value has, for one who takes a copy. -/
def rowsOf (h : Heap) (e : Ty) (x : V) : Option (List Prop × List e.den) :=
  match x with
  | .vw id e' lo n _ => match lookN h id with
    | some (.raw _ e'' xs) => match castO e'' e xs, decEq e' e with
      | some xs, isTrue _ => some ([((xs.drop lo).take n).all Option.isSome = true], ((xs.drop lo).take n).map fun r => r.getD e.dflt)
      | _, _ => none
    | some (.arr _ e'' xs) => match castL e'' e xs, decEq e' e with
      | some xs, isTrue _ => some ([lo + n ≤ xs.length], (xs.drop lo).take n)
      | _, _ => none
    | _ => none
  | x => match viewL h true e x with
    | some ys => some ([], ys)
    | none => none
def loadR (T : Tab) (t : TypeId) (a : V) (h : Heap) : R :=
  match T.ti t with
  | none => none
  | some i => match a with
    | .ep id e row col => match lookN h id with
      | some (.raw _ e' xs) => match castO e' e xs with
        | some xs => match Nat.ble (col + i.size) e.cells with
          | true => mkR [(xs.getD row none).isSome = true] i.d (((ofDen e ((xs.getD row none).getD e.dflt)).drop col).take i.size)
          | false => none
        | none => none
      | _ => none
    | _ => none
def storeR (T : Tab) (t : TypeId) (a x : V) (h : Heap) : R :=
  match T.ti t with
  | none => none
  | some i => match Nat.beq x.cells.length i.size && x.cells.all V.one with
    | false => none
    | true => match a with
      | .ep id e row 0 => match lookN (freezeAll h x.cells) id with
        | some (.raw te e' xs) => match castO e' e xs, Nat.beq i.size e.cells with
          | some xs, true => match toDen (freezeAll h x.cells) false e x.cells with
            | some (y, []) => some ([row < xs.length], .any, setObj (freezeAll h x.cells) id (.raw te e (xs.set row (some y))))
            | _ => none
          | _, _ => none
        | _ => none
      | _ => none
def indexR (T : Tab) (t : TypeId) (x ix : V) : R :=
  match x, ix with
  | .vw id e lo n _, .i _ i => match elemT T t with
    | some (_, e', _, _) => match decEq e' e with
      | isTrue _ => some ([0 ≤ i, i < n], .ep id e (lo + i.toNat) 0, [])
      | isFalse _ => none
    | none => none
  | _, _ => none
def optIntO : Option V → Option (Option Int)
  | none => some none
  | some (.i _ n) => some (some n)
  | _ => none
/-- A cut of such a part; a cut with a bound of one's own slice. -/
def sliceR (T : Tab) (t : TypeId) (x : V) (lo hi mx : Option V) (h : Heap) : R :=
  match elemT T t with
  | none => none
  | some (_, e', _, _) => match x with
    | .vw id e lo0 n true => match decEq e' e, lookN h id, optInt lo 0, optInt hi n with
      | isTrue _, some (.raw _ _ xs), some a, some b => match mx with
        | none => some ([0 ≤ a, a ≤ b, lo0 + b ≤ xs.length], .vw id e (lo0 + a.toNat) (b - a).toNat true, [])
        | some (.i _ m) => match hi with
          | some _ => some ([0 ≤ a, a ≤ b, b ≤ m, lo0 + m ≤ xs.length], .vw id e (lo0 + a.toNat) (b - a).toNat false, [])
          | none => none
        | _ => none
      | _, _, _, _ => none
    | .own id => match lookN h id, mx, hi with
      | some (.arr _ e'' xs), some (.i _ m), some hi => match decEq e'' e', optInt lo 0, optInt (some hi) 0 with
        | isTrue _, some a, some b => some ([0 ≤ a, a ≤ b, b ≤ m, m ≤ xs.length], .vw id e' a.toNat (b - a).toNat false, [])
        | _, _, _ => none
      | _, _, _ => none
    | .nil => match mx, optInt lo 0, optInt hi 0 with
      | none, some a, some b => some ([a = 0, b = 0], .nil, [])
      | _, _, _ => none
    | _ => none
def lenR (T : Tab) (t : TypeId) (x : V) : R :=
  match T.ti t with
  | none => none
  | some i => match isSliceD i.d, x with
    | true, .vw _ _ _ n _ => some ([], .i .i64 (n : Int), [])
    | _, _ => none
def capR (T : Tab) (t : TypeId) (x : V) (h : Heap) : R :=
  match T.ti t with
  | none => none
  | some i => match isSliceD i.d, x with
    | true, .vw id _ lo _ true => match lookN h id with
      | some (.raw _ _ xs) => some ([], .i .i64 ((xs.length : Int) - (lo : Int)), [])
      | _ => none
    | true, .nil => some ([], .i .i64 0, [])
    | _, _ => none
/-- No more of it than 'n' rows. -/
def narrow (n : Nat) : V → V
  | .vw id e lo m _ => .vw id e lo (min m n) false
  | x => x
def copyR (T : Tab) (t : TypeId) (d x : V) (h : Heap) : R :=
  match elemT T t, d with
  | some (te, e, _, _), .vw id e0 lo n _ => match lookN h id with
    | some (.raw te' e' xs) => match Nat.beq te te', castO e' e xs, decEq e0 e, rowsOf h e (narrow n x) with
      | true, some xs, isTrue _, some (c, ys) => some (c, .i .i64 ((min ys.length n : Nat) : Int), setObj h id (.raw te e (xs.take lo ++ (ys.take n).map some ++ xs.drop (lo + (ys.take n).length))))
      | _, _, _, _ => none
    | _ => none
  | _, _ => none
def clearR (T : Tab) (t : TypeId) (d : V) (h : Heap) : R :=
  match elemT T t, d with
  | some (te, e, _, zero), .vw id e0 lo n _ => match lookN h id with
    | some (.raw te' e' xs) => match Nat.beq te te', castO e' e xs, decEq e0 e, zeroD e zero with
      | true, some xs, isTrue _, some z => some ([], .tup [], setObj h id (.raw te e (xs.take lo ++ List.replicate n (some z) ++ xs.drop (lo + n))))
      | _, _, _, _ => none
    | _ => none
  | _, _ => none
/-- A key's value: by the first entry that has it. -/
def keyV (k : Ty) : V → Option k.den
  | .i q n => match k with
    | .int q' => if q = q' then some n else none
    | _ => none
  | .s l => match k with
    | .str => some l
    | _ => none
  | _ => none
def keyEq : (k : Ty) → k.den → k.den → Bool
  | .int _, a, b => (a : Int) == b
  | .str, a, b => (a : List UInt8) == b
  | _, _, _ => false
def mapGet (k : Ty) {α : Type} (a : k.den) (d : α) : List (k.den × α) → α
  | [] => d
  | (b, v) :: r => if keyEq k a b = true then v else mapGet k a d r
def mapHas (k : Ty) {α : Type} (a : k.den) : List (k.den × α) → Bool
  | [] => false
  | (b, v) :: r => keyEq k a b || mapHas k a r
def mapPut (k : Ty) {α : Type} (a : k.den) (v : α) : List (k.den × α) → List (k.den × α)
  | [] => [(a, v)]
  | (b, u) :: r => if keyEq k a b = true then (a, v) :: r else (b, u) :: mapPut k a v r
def mapDel (k : Ty) {α : Type} (a : k.den) : List (k.den × α) → List (k.den × α)
  | [] => []
  | (b, u) :: r => if keyEq k a b = true then r else (b, u) :: mapDel k a r
/-- A map type with keys that are numbers or strings, its elements' data type of one cell. -/
def mapT (T : Tab) (t : TypeId) : Option (Ty × Ty × V) :=
  match T.ti t with
  | some ⟨.map tk te, _, _, _, _, true⟩ => match T.ti tk with
    | some ⟨dk, _, _, _, _, _⟩ => match dk with
      | .int q => some (.int q, .bool, .bl false)
      | .str => some (.str, .bool, .bl false)
      | _ => none
    | _ => none
  | _ => none
def lookupV (T : Tab) (t : TypeId) (m ix : V) (commaOk : Bool) (h : Heap) : R :=
  match mapT T t, m with
  | some (k, .bool, .bl z), .mp id => match lookN h id, keyV k ix with
    | some (.map k' e' l), some a => match castM k' k e' .bool l with
      | some l => match commaOk with
        | false => some ([], .b (mapGet k a z l), [])
        | true => some ([], .tup [.b (mapGet k a z l), .b (mapHas k a l)], [])
      | none => none
    | _, _ => none
  | _, _ => none
def makeMapV (T : Tab) (t : TypeId) (fresh : Nat) : R :=
  match mapT T t with
  | some (k, e, _) => some ([], .mp fresh, [(fresh, .map k e [])])
  | none => none
def mapPutV (T : Tab) (t : TypeId) (m ix x : V) (h : Heap) : R :=
  match mapT T t, m, vbool x with
  | some (k, .bool, _), .mp id, some y => match lookN h id, keyV k ix with
    | some (.map k' e' l), some a => match castM k' k e' .bool l with
      | some l => some ([], .any, setObj h id (.map k .bool (mapPut k a y l)))
      | none => none
    | _, _ => none
  | _, _, _ => none
def mapDelV (T : Tab) (t : TypeId) (m ix : V) (h : Heap) : R :=
  match mapT T t, m with
  | some (k, .bool, _), .mp id => match lookN h id, keyV k ix with
    | some (.map k' e' l), some a => match castM k' k e' .bool l with
      | some l => some ([], .tup [], setObj h id (.map k .bool (mapDel k a l)))
      | none => none
    | _, _ => none
  | _, _ => none
/-- An append to no slice: nothing that is there turns. -/
def appendNil (T : Tab) (t : TypeId) (s x : V) (fresh : Nat) (h : Heap) : R :=
  match elemT T t, s with
  | some (te, e, bytes, _), .nil => match viewL h true e x with
    | some ys => some ([ys.length * bytes ≤ 140737488355328, ys.length ≤ maxLen], .own fresh, [(fresh, .arr te e ys)])
    | none => none
  | _, _ => none
def stepQ2 (T : Tab) (o : Oper) (fresh : Nat) (env : Env) (h : Heap) : R :=
  match o.op with
  | .load t a => loadR T t (rd env a) h
  | .indexAddr t x ix => indexR T t (rd env x) (rd env ix)
  | .slice t x lo hi mx => sliceR T t (rd env x) (lo.map (rd env)) (hi.map (rd env)) (mx.map (rd env)) h
  | .lookup t m ix ok => lookupV T t (rd env m) (rd env ix) ok h
  | .makeMap t none => makeMapV T t fresh
  | .call ⟨.builtin .len, args, ts⟩ => match args.toList, ts.toList with
    | [x], [t] => lenR T t (rd env x)
    | _, _ => none
  | .call ⟨.builtin .cap, args, ts⟩ => match args.toList, ts.toList with
    | [x], [t] => capR T t (rd env x) h
    | _, _ => none
  | .call ⟨.builtin .append, args, ts⟩ => match args.toList, ts.toList with
    | [s, x], [t, t'] => match Nat.beq t t' with
      | true => appendNil T t (rd env s) (rd env x) fresh h
      | false => none
    | _, _ => none
  | _ => none
def stepW2 (T : Tab) (o : Oper) (fresh : Nat) (env : Env) (h : Heap) : R :=
  match o.op with
  | .store t a x => storeR T t (rd env a) (rd env x) h
  | .mapUpdate t m ix x => mapPutV T t (rd env m) (rd env ix) (rd env x) h
  | .call ⟨.builtin .copy, args, ts⟩ => match args.toList, ts.toList with
    | [d, x], [t, t'] => match Nat.beq t t' with
      | true => copyR T t (rd env d) (rd env x) h
      | false => none
    | _, _ => none
  | .call ⟨.builtin .clear, args, ts⟩ => match args.toList, ts.toList with
    | [d], [t] => clearR T t (rd env d) h
    | _, _ => none
  | .call ⟨.builtin .delete, args, ts⟩ => match args.toList, ts.toList with
    | [m, ix], t :: _ => mapDelV T t (rd env m) (rd env ix) h
    | _, _ => none
  | _ => none
def stepQ (T : Tab) (S : Specs) (o : Oper) (fresh : Nat) (env : Env) (h : Heap) : R :=
  match stepQ1 T S o fresh env h with
  | some r => some r
  | none => stepQ2 T o fresh env h
def stepW (T : Tab) (S : Specs) (o : Oper) (fresh : Nat) (env : Env) (h : Heap) : R :=
  match stepW1 T S o fresh env h with
  | some r => some r
  | none => stepW2 T o fresh env h

end Go.Eng
