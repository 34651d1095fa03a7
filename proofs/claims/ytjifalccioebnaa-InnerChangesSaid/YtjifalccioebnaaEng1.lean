import Derived.OwnWalk
import Derived.Orders
import Derived.Below
import Derived.Deep.Draws
import Derived.Maps.AppendAt
import Derived.Laws.Concat
import Derived.Laws.BytesString
import Derived.Laws.StructEq
import Derived.MapKept
import Derived.Laws.CopyRow
import Derived.Laws.Tables
import Derived.Laws.Rows
import Derived.Laws.MakeOwn
import Derived.Laws.IdiomStrings
import Derived.Deep.AppendLies
import Derived.Laws.OwnMore
/- Texts, one behind the other. -/
set_option linter.unusedVariables false
set_option linter.unusedSimpArgs false
namespace Go.Eng
inductive Ty where
  | bool | int (k : IntKind) | str | slice (e : Ty) | pair (a b : Ty)
  deriving DecidableEq

@[reducible] def Ty.den : Ty → Type
  | .bool => Bool
  | .int _ => Int
  | .str => List UInt8
  | .slice e => List e.den
  | .pair a b => a.den × b.den

def Ty.dflt : (t : Ty) → t.den
  | .bool => false
  | .int _ => (0 : Int)
  | .str => []
  | .slice _ => []
  | .pair a b => (a.dflt, b.dflt)

def Ty.cells : Ty → Nat
  | .pair a b => a.cells + b.cells
  | _ => 1

inductive ZC where
  | b | i (k : IntKind) | s | sl | p | f | m | x
  deriving DecidableEq
inductive TD where
  | bool | int (k : IntKind) | str | slice (e : TypeId) | ptr (e : TypeId) | struct (fs : List (TypeId × Nat)) | arr (n : Nat) (e : TypeId) | map (k e : TypeId) | other
  deriving DecidableEq
structure TI where
  d : TD
  size : Nat
  bytes : Nat
  zero : List ZC
  row : Option Ty
  eq : Bool
  deriving DecidableEq

def zcOf : Value → ZC
  | .bool false => .b
  | .int k 0 => .i k
  | .string ⟨⟨[]⟩⟩ => .s
  | .slice none 0 0 => .sl
  | .pointer none => .p
  | .nilFunc => .f
  | .map none => .m
  | _ => .x
def tdOf : TypeDesc → TD
  | .bool => .bool
  | .int k => .int k
  | .string => .str
  | .slice e => .slice e
  | .pointer e => .ptr e
  | .struct fs => .struct (fs.toList.map fun f => (f.type, f.offset))
  | .array n e => .arr n e
  | .map k e => .map k e
  | _ => .other
def rowFold (row : TypeId → Option Ty) : List TypeId → Option Ty
  | [] => none
  | f :: r => match r with
    | [] => row f
    | _ => (row f).bind fun a => (rowFold row r).map (Ty.pair a)
def rowOf (P : Program) : Nat → TypeId → Option Ty
  | 0, _ => none
  | n + 1, t =>
    match P.underlying t with
    | some .bool => some .bool
    | some (.int k) => some (.int k)
    | some .string => some .str
    | some (.slice e) => (rowOf P n e).map .slice
    | some (.struct fs) => rowFold (rowOf P n) (fs.toList.map (·.type))
    | some (.array m e) => rowFold (rowOf P n) (List.replicate m e)
    | _ => none
def eqOf (P : Program) (t : TypeId) : TypeDesc → Bool
  | .struct fs => !P.stoodInHeld t && !P.eqGuardType P.depth t && fs.toList.all fun f => f.name != "_"
  | .map _ e => match P.info? e with
    | some i => match i.zero with
      | some (.bool false) => true
      | _ => false
    | none => false
  | _ => false
def tiOf (P : Program) (t : TypeId) : Option TI :=
  match P.info? t, P.underlying t with
  | some inf, some u => match inf.zero with
    | some z => some ⟨tdOf u, inf.size, inf.bytes, z.cells.toList.map zcOf, rowOf P 8 t, eqOf P t u⟩
    | none => none
  | _, _ => none

abbrev Tab := List (TypeId × TI)
def lookN {α : Type} : List (Nat × α) → Nat → Option α
  | [], _ => none
  | (k, v) :: r, t => match Nat.beq k t with
    | true => some v
    | false => lookN r t
def Tab.ti (T : Tab) (t : TypeId) : Option TI := lookN T t
def TabOk (P : Program) (T : Tab) : Prop := ∀ t i, T.ti t = some i → tiOf P t = some i

inductive V where
  | any
  | bl (x : Bool) | b (x : Bool) | i (k : IntKind) (n : Int) | s (l : List UInt8)
  | sl (e : Ty) (xs : List e.den)
  | nil
  | np
  /-- No function; no map. -/
  | nf
  | nm
  | own (id : Nat)
  | ptr (id col : Nat)
  | rp (cs : List V)
  | ep (id : Nat) (e : Ty) (row col : Nat)
  | fn (f : FuncId) (caps : List V)
  | lam (a b : Ty) (h : a.den → b.den)
  | agg (cs : List V)
  | tup (vs : List V)
  | mp (id : Nat)
  /-- A part of a slice that is one's own: from a row on, so many rows; is all the room behind it its own? -/
  | vw (id : Nat) (e : Ty) (lo n : Nat) (full : Bool)
  /-- A struct in an interface value. -/
  | ifc (t : TypeId) (v : V)
  /-- A slice that is data; has it no room behind its length? -/
  | os (e : Ty) (f : Bool) (xs : List e.den)

inductive Obj where
  | box (cells : List V)
  | arr (te : TypeId) (e : Ty) (xs : List e.den)
  | ice (e : Ty) (xs : List e.den)
  | map (k e : Ty) (l : List (k.den × e.den))
  /-- A slice that is one's own, with all its room: of some rows nothing is known. -/
  | raw (te : TypeId) (e : Ty) (xs : List (Option e.den))
  /-- A slice that is one's own, with no room behind its length. -/
  | xar (te : TypeId) (e : Ty) (xs : List e.den)
  /-- A slice of slices that is one's own: of each row: has it no room behind its length? -/
  | arx (te : TypeId) (e : Ty) (rows : List (Bool × List e.den))

abbrev Env := List (Nat × V)
abbrev Heap := List (Nat × Obj)

def V.cells : V → List V
  | .agg cs => cs
  | v => [v]
def ofDen : (e : Ty) → e.den → List V
  | .bool, x => [.b x]
  | .int k, n => [.i k n]
  | .str, l => [.s l]
  | .slice e, xs => [.sl e xs]
  | .pair a b, x => ofDen a x.1 ++ ofDen b x.2
def vOfDen (e : Ty) (x : e.den) : V :=
  match e with
  | .pair a b => .agg (ofDen (.pair a b) x)
  | .bool => .b x
  | .int k => .i k x
  | .str => .s x
  | .slice e => .sl e x

def castO (e e' : Ty) (xs : List (Option e.den)) : Option (List (Option e'.den)) :=
  match decEq e e' with
  | isTrue h => h ▸ some xs
  | isFalse _ => none
def castM (k k' e e' : Ty) (l : List (k.den × e.den)) : Option (List (k'.den × e'.den)) :=
  match decEq k k', decEq e e' with
  | isTrue h, isTrue h' => h ▸ h' ▸ some l
  | _, _ => none
def castL (e e' : Ty) (xs : List e.den) : Option (List e'.den) :=
  match decEq e e' with
  | isTrue h => h ▸ some xs
  | isFalse _ => none

def viewL (h : Heap) (own : Bool) (e : Ty) : V → Option (List e.den)
  | .sl e' xs => castL e' e xs
  | .os e' _ xs => castL e' e xs
  | .nil => some []
  | .own id => match lookN h id with
    | some (.ice e' xs) => castL e' e xs
    | some (.arr _ e' xs) => match own with
      | true => castL e' e xs
      | false => none
    | _ => none
  | _ => none
def toDen (h : Heap) (own : Bool) : (e : Ty) → List V → Option (e.den × List V)
  | .bool, .b x :: r => some (x, r)
  | .bool, .bl x :: r => some (x, r)
  | .int k, .i k' n :: r => if k' = k then some (n, r) else none
  | .str, .s l :: r => some (l, r)
  | .slice e, v :: r => match viewL h own e v with
    | some xs => some (xs, r)
    | none => none
  | .pair a b, cs => match toDen h own a cs with
    | some (x, r) => match toDen h own b r with
      | some (y, r') => some ((x, y), r')
      | none => none
    | none => none
  | _, _ => none

@[irreducible] def Leaf (p : Prop) : Prop := p
@[irreducible] def Ev (p : Prop) : Prop := p
theorem Leaf.mk {p : Prop} (h : p) : Leaf p := by unfold Leaf; exact h
theorem Leaf.out {p : Prop} (h : Leaf p) : p := by unfold Leaf at h; exact h
theorem Ev.mk {p : Prop} (h : p) : Ev p := by unfold Ev; exact h
theorem Ev.out {p : Prop} (h : Ev p) : p := by unfold Ev at h; exact h
def conj (l : List Prop) (K : Prop) : Prop :=
  List.rec (motive := fun _ => Prop) K (fun c _ ih => Leaf c ∧ Ev ih) l
theorem conj_cons (c : Prop) (cs : List Prop) (K : Prop) : conj (c :: cs) K = (Leaf c ∧ Ev (conj cs K)) := rfl

def inK : IntKind → Int → Bool
  | .i8, n => decide (-128 ≤ n) && decide (n ≤ 127)
  | .i16, n => decide (-32768 ≤ n) && decide (n ≤ 32767)
  | .i32, n => decide (-2147483648 ≤ n) && decide (n ≤ 2147483647)
  | .i64, n => decide (-9223372036854775808 ≤ n) && decide (n ≤ 9223372036854775807)
  | .u8, n => decide (0 ≤ n) && decide (n ≤ 255)
  | .u16, n => decide (0 ≤ n) && decide (n ≤ 65535)
  | .u32, n => decide (0 ≤ n) && decide (n ≤ 4294967295)
  | .u64, n => decide (0 ≤ n) && decide (n ≤ 18446744073709551615)
theorem inK_iff (k : IntKind) (n : Int) : inK k n = true ↔ k.min ≤ n ∧ n ≤ k.max := by
  cases k <;> simp [inK, IntKind.min, IntKind.max, IntKind.signed, IntKind.bits]

def constV : Value → V
  | .bool x => .bl x
  | .int k n => match inK k n with
    | true => .i k n
    | false => .any
  | .string ⟨⟨l⟩⟩ => match Nat.ble l.length 100000 with
    | true => .s l
    | false => .any
  | .slice none 0 0 => .nil
  | .pointer none => .np
  | .nilFunc => .nf
  | .map none => .nm
  | _ => .any
def rd (env : Env) : Operand → V
  | .tmp t => (lookN env t).getD .any
  | .const v => constV v
  | .global _ => .any
  | .func f => .fn f []

def ibits (op : BinOp) (k : IntKind) (x y : Int) : Int :=
  let a := BitVec.ofInt k.bits x
  let b := BitVec.ofInt k.bits y
  k.wrap (match op with
    | .and => (a &&& b).toNat
    | .or => (a ||| b).toNat
    | .xor => (a ^^^ b).toNat
    | _ => (a &&& ~~~b).toNat : Nat)
abbrev sless (a b : List UInt8) : Bool := Op.bytesLess a b

abbrev R := Option (List Prop × V × Heap)
def ok1 (h : Heap) (v : V) : R := some ([], v, h)

def binInt (op : BinOp) (k : IntKind) (a b : Int) : Option (List Prop × V) :=
  match op with
  | .add => some ([], .i k (k.wrap (a + b)))
  | .sub => some ([], .i k (k.wrap (a - b)))
  | .mul => some ([], .i k (k.wrap (a * b)))
  | .quo => some ([b ≠ 0], .i k (k.wrap (a.tdiv b)))
  | .rem => some ([b ≠ 0, inK k (a.tmod b) = true], .i k (a.tmod b))
  | .and => some ([], .i k (ibits .and k a b))
  | .or => some ([], .i k (ibits .or k a b))
  | .xor => some ([], .i k (ibits .xor k a b))
  | .andNot => some ([], .i k (ibits .andNot k a b))
  | .eql => some ([], .b (a == b))
  | .neq => some ([], .b (a != b))
  | .lss => some ([], .b (decide (a < b)))
  | .leq => some ([], .b (decide (a ≤ b)))
  | .gtr => some ([], .b (decide (a > b)))
  | .geq => some ([], .b (decide (a ≥ b)))
  | _ => none
def binStr (op : BinOp) (a b : List UInt8) : Option (List Prop × V) :=
  match op with
  | .add => some ([a.length + b.length ≤ maxLen], .s (a ++ b))
  | .eql => some ([], .b (a == b))
  | .neq => some ([], .b (!(a == b)))
  | .lss => some ([], .b (sless a b))
  | .leq => some ([], .b (sless a b || a == b))
  | .gtr => some ([], .b (!(sless a b || a == b)))
  | .geq => some ([], .b (!(sless a b)))
  | _ => none
def vbool : V → Option Bool
  | .b x => some x
  | .bl x => some x
  | _ => none
def fieldEq : TD → V → V → Option Bool
  | .int _, .i k a, .i k' b => if k = k' then some (a == b) else none
  | .str, .s a, .s b => some (a == b)
  | .bool, v, w => match vbool v, vbool w with
    | some x, some y => some (x == y)
    | _, _ => none
  | _, _, _ => none
def flatEq (T : Tab) : Nat → List (TypeId × Nat) → List V → List V → Option Bool
  | _, [], [], [] => some true
  | n, [(ft, off)], [x], [y] => match T.ti ft with
    | some i => match Nat.beq off n with
      | true => fieldEq i.d x y
      | false => none
    | none => none
  | n, (ft, off) :: r, x :: xs, y :: ys => match T.ti ft with
    | some i => match Nat.beq off n, fieldEq i.d x y, flatEq T (n + 1) r xs ys with
      | true, some p, some q => some (p && q)
      | _, _, _ => none
    | none => none
  | _, _, _, _ => none
def shiftV (op : BinOp) (k : IntKind) (a b : Int) : Option (List Prop × V) :=
  match op with
  | .shl => some ([0 ≤ b], .i k (k.wrap (a * 2 ^ (min b.toNat k.bits))))
  | .shr => some ([0 ≤ b, inK k (a.fdiv (2 ^ (min b.toNat k.bits))) = true], .i k (a.fdiv (2 ^ (min b.toNat k.bits))))
  | _ => none
def binV (T : Tab) (op : BinOp) (t : TypeId) (x y : V) : Option (List Prop × V) :=
  match x, y with
  | .i k a, .i k' b => match op with
    | .shl => shiftV .shl k a b
    | .shr => shiftV .shr k a b
    | op => if k = k' then binInt op k a b else none
  | .s a, .s b => binStr op a b
  | .agg xs, .agg ys => match T.ti t with
    | some ⟨.struct fs, _, _, _, _, true⟩ => match op, flatEq T 0 fs xs ys with
      | .eql, some p => some ([], .b p)
      | .neq, some p => some ([], .b (!p))
      | _, _ => none
    | _ => none
  | .ptr _ _, .np => match T.ti t with
    | some ⟨.ptr _, _, _, _, _, _⟩ => match op with
      | .eql => some ([], .bl false)
      | .neq => some ([], .bl true)
      | _ => none
    | _ => none
  | x, y => match T.ti t with
    | some ⟨.bool, _, _, _, _, _⟩ => match op, vbool x, vbool y with
      | .eql, some p, some q => some ([], .b (p == q))
      | .neq, some p, some q => some ([], .b (!(p == q)))
      | _, _, _ => none
    | _ => none

def zeroV : ZC → V
  | .b => .bl false
  | .i k => .i k 0
  | .s => .s []
  | .sl => .nil
  | .p => .np
  | .f => .nf
  | .m => .nm
  | _ => .any
def isAggD : TD → Bool
  | .struct _ => true
  | .arr _ _ => true
  | _ => false
def mkV (d : TD) (cs : List V) : Option V :=
  match isAggD d with
  | true => some (.agg cs)
  | false => match cs with
    | [c] => some c
    | _ => none
def V.one : V → Bool
  | .any | .agg _ | .tup _ => false
  | _ => true
def setAt (cs : List V) (col : Nat) (news : List V) : List V :=
  cs.take col ++ news ++ cs.drop (col + news.length)

def setObj : Heap → Nat → Obj → Heap
  | [], _, _ => []
  | (k, o) :: r, id, o' => match Nat.beq k id with
    | true => (k, o') :: r
    | false => (k, o) :: setObj r id o'
def delObj : Heap → Nat → Heap
  | [], _ => []
  | (k, o) :: r, id => match Nat.beq k id with
    | true => delObj r id
    | false => (k, o) :: delObj r id
def freezeAll : Heap → List V → Heap
  | h, [] => h
  | h, .own id :: r => match lookN h id with
    | some (.arr _ e xs) => freezeAll (setObj h id (.ice e xs)) r
    | some (.xar _ e xs) => freezeAll (setObj h id (.ice e xs)) r
    | some (.arx _ e rows) => freezeAll (setObj h id (.ice (.slice e) (rows.map fun p => p.2))) r
    | _ => freezeAll h r
  | h, _ :: r => freezeAll h r

def fieldOff (T : Tab) (t : TypeId) (f : Nat) : Option (TypeId × Nat) :=
  match T.ti t with
  | some ⟨.struct fs, _, _, _, _, _⟩ => match fs[f]? with
    | some (ft, off) => match T.ti ft with
      | some i => match i.size with
        | 0 => none
        | _ + 1 => some (ft, off)
      | none => none
    | none => none
  | _ => none

def mkR (c : List Prop) (d : TD) (cs : List V) : R :=
  match mkV d cs with
  | some v => some (c, v, [])
  | none => none
def loadV (T : Tab) (t : TypeId) (a : V) (h : Heap) : R :=
  match T.ti t with
  | none => none
  | some i => match a with
    | .ptr id col => match lookN h id with
      | some (.box cs) => match Nat.ble (col + i.size) cs.length with
        | true => mkR [] i.d ((cs.drop col).take i.size)
        | false => none
      | _ => none
    | .rp cs => match Nat.ble i.size cs.length with
      | true => mkR [] i.d (cs.take i.size)
      | false => none
    | .ep id e row col => match lookN h id with
      | some (.arr _ e' xs) => match castL e' e xs with
        | some xs => match Nat.ble (col + i.size) e.cells with
          | true => mkR [row < xs.length] i.d (((ofDen e (xs.getD row e.dflt)).drop col).take i.size)
          | false => none
        | none => none
      | _ => none
    | _ => none
def storeV (T : Tab) (t : TypeId) (a x : V) (h : Heap) : R :=
  match T.ti t with
  | none => none
  | some i => match Nat.beq x.cells.length i.size && x.cells.all V.one with
    | false => none
    | true => match a with
      | .ptr id col => match lookN h id with
        | some (.box cs) => match Nat.ble (col + i.size) cs.length with
          | true => ok1 (setObj h id (.box (setAt cs col x.cells))) .any
          | false => none
        | _ => none
      | .ep id e row col => match lookN (freezeAll h x.cells) id with
        | some (.arr te e' xs) => match castL e' e xs with
          | some xs => match Nat.ble (col + i.size) e.cells with
            | true => match toDen (freezeAll h x.cells) false e (setAt (ofDen e (xs.getD row e.dflt)) col x.cells) with
              | some (y, []) => some ([row < xs.length], .any, setObj (freezeAll h x.cells) id (.arr te e (xs.set row y)))
              | _ => none
            | false => none
          | none => none
        | _ => none
      | _ => none

def elemT (T : Tab) (t : TypeId) : Option (TypeId × Ty × Nat × List ZC) :=
  match T.ti t with
  | some ⟨.slice te, _, _, _, _, _⟩ => match T.ti te with
    | some ⟨_, size, bytes, zero, some e, _⟩ => match Nat.beq size e.cells && Nat.blt 0 size && Nat.beq zero.length size with
      | true => some (te, e, bytes, zero)
      | false => none
    | _ => none
  | _ => none

def indexAddrV (T : Tab) (t : TypeId) (x ix : V) (h : Heap) : R :=
  match ix with
  | .i _ n => match elemT T t with
    | some (_, e, _, _) => match x with
      | .sl e' xs => match castL e' e xs with
        | some xs => some ([0 ≤ n, n < xs.length], .rp (ofDen e (xs.getD n.toNat e.dflt)), [])
        | none => none
      | .own id => match lookN h id with
        | some (.arr _ e' xs) => match castL e' e xs with
          | some xs => some ([0 ≤ n, n < xs.length], .ep id e n.toNat 0, [])
          | none => none
        | some (.ice e' xs) => match castL e' e xs with
          | some xs => some ([0 ≤ n, n < xs.length], .rp (ofDen e (xs.getD n.toNat e.dflt)), [])
          | none => none
        | _ => none
      | _ => none
    | none => match T.ti t with
      | some ⟨.arr m te, _, _, _, _, _⟩ => match T.ti te, x, n with
        | some i, .ptr id col, .ofNat k => match Nat.blt k m with
          | true => some ([], .ptr id (col + k * i.size), [])
          | false => none
        | _, _, _ => none
      | _ => none
  | _ => none

def indexV (ix x : V) : Option (List Prop × V) :=
  match x, ix with
  | .s l, .i _ n => some ([0 ≤ n, n < l.length], .i .u8 ((l.getD n.toNat 0).toNat : Int))
  | _, _ => none

def optInt : Option V → Int → Option Int
  | none, d => some d
  | some (.i _ n), _ => some n
  | _, _ => none
def sliceV (T : Tab) (t : TypeId) (x : V) (lo hi mx : Option V) (h : Heap) : R :=
  match mx with
  | some _ => none
  | none => match x with
    | .s l => match T.ti t with
      | some ⟨.str, _, _, _, _, _⟩ => match optInt lo 0, optInt hi l.length with
        | some a, some b => some ([0 ≤ a, a ≤ b, b ≤ l.length], .s ((l.take b.toNat).drop a.toNat), [])
        | _, _ => none
      | _ => none
    | .nil => none
    | x => match elemT T t with
      | some (_, e, _, _) => match viewL h false e x with
        | some xs => match optInt lo 0, optInt hi xs.length with
          | some a, some b => some ([0 ≤ a, a ≤ b, b ≤ xs.length], .sl e ((xs.take b.toNat).drop a.toNat), [])
          | _, _ => none
        | none => none
      | none => none
def sliceOwnV (T : Tab) (t : TypeId) (x : V) (lo hi mx : Option V) (fresh : Nat) (h : Heap) : R :=
  match mx, x, elemT T t with
  | none, .own id, some (_, e, _, _) => match lookN h id with
    | some (.arr te' e' xs) => match castL e' e xs with
      | some xs => match lo with
        | none => match optInt hi xs.length with
          | some b => some ([0 ≤ b, b ≤ xs.length], .own fresh, (fresh, .arr te' e (xs.take b.toNat)) :: delObj h id)
          | none => none
        | some lo => match optInt (some lo) 0, optInt hi xs.length with
          | some a, some b => some ([0 ≤ a, a ≤ b, b ≤ xs.length], .sl e ((xs.take b.toNat).drop a.toNat), setObj h id (.ice e xs))
          | _, _ => none
      | none => none
    | _ => none
  | _, _, _ => none

def isSliceD : TD → Bool
  | .slice _ => true
  | _ => false
def lenV (T : Tab) (t : TypeId) (x : V) (h : Heap) : R :=
  match T.ti t with
  | none => none
  | some i => match x with
    | .s l => match i.d with
      | .str => some ([], .i .i64 (l.length : Int), [])
      | _ => none
    | .sl _ xs => match isSliceD i.d with
      | true => some ([], .i .i64 (xs.length : Int), [])
      | false => none
    | .nil => match isSliceD i.d with
      | true => some ([], .i .i64 0, [])
      | false => none
    | .own id => match isSliceD i.d with
      | true => match lookN h id with
        | some (.arr _ _ xs) => some ([], .i .i64 (xs.length : Int), [])
        | some (.ice _ xs) => some ([], .i .i64 (xs.length : Int), [])
        | _ => none
      | false => none
    | _ => none

def bytesOfStr (l : List UInt8) : List Int := l.map fun c => (c.toNat : Int)
def strOfBytes (l : List Int) : List UInt8 := l.map fun n => UInt8.ofNat n.toNat

def shareT (T : Tab) : Bool :=
  match T with
  | (a, _) :: (b, _) :: _ => Nat.beq a b
  | _ => false
def exactT (T : Tab) : Bool :=
  match T with
  | (a, _) :: (b, _) :: (c, _) :: _ => match Nat.beq a b with
    | true => false
    | false => Nat.beq a c
  | _ => false
def rboxT (T : Tab) : Bool :=
  match T with
  | (a, _) :: (b, _) :: (c, _) :: _ => match Nat.beq a b with
    | true => false
    | false => Nat.beq b c
  | _ => false
def V.plain : V → Bool
  | .bl _ => true
  | .b _ => true
  | .i _ _ => true
  | .s _ => true
  | .sl _ _ => true
  | .nil => true
  | _ => false
def appendV (T : Tab) (t : TypeId) (s x : V) (fresh : Nat) (h : Heap) : R :=
  match elemT T t with
  | some (te, e, bytes, _) => match viewL h true e x with
    | none => none
    | some ys => match s with
      | .nil => some ([ys.length * bytes ≤ 140737488355328, ys.length ≤ maxLen], .own fresh, (fresh, .arr te e ys) :: h)
      | .own id => match lookN h id with
        | some (.arr te' e' xs) => match Nat.beq te te', castL e' e xs with
          | true, some xs => match shareT T with
            | true => none
            | false => some ([(xs.length + ys.length) * bytes ≤ 140737488355328, xs.length + ys.length ≤ maxLen], .own fresh, (fresh, .arr te e (xs ++ ys)) :: delObj h id)
          | _, _ => none
        | _ => none
      | _ => none
  | none => none

def copyV (T : Tab) (t : TypeId) (d x : V) (h : Heap) : R :=
  match elemT T t with
  | some (te, e, _, _) => match viewL h true e x with
    | none => none
    | some ys => match d with
      | .own id => match lookN h id with
        | some (.arr te' e' xs) => match Nat.beq te te', castL e' e xs with
          | true, some xs => some ([], .i .i64 ((min ys.length xs.length : Nat) : Int), setObj h id (.arr te e (ys.take xs.length ++ xs.drop ys.length)))
          | _, _ => none
        | _ => none
      | _ => none
  | none => none

def copyS (T : Tab) (t : TypeId) (d x : V) (h : Heap) : R :=
  match elemT T t, x, d with
  | some (te, .int .u8, _, _), .s l, .own id => match lookN h id with
    | some (.arr te' e' xs) => match Nat.beq te te', castL e' (.int .u8) xs with
      | true, some xs => some ([], .i .i64 ((min l.length xs.length : Nat) : Int), setObj h id (.arr te (.int .u8) (List.take xs.length (bytesOfStr l) ++ List.drop l.length xs)))
      | _, _ => none
    | _ => none
  | _, _, _ => none

def convV (T : Tab) (src dst : TypeId) (x : V) (h : Heap) : R :=
  match T.ti src, T.ti dst with
  | some si, some di => match di.d, x with
    | .int k, .i _ n => some ([], .i k (k.wrap n), [])
    | .str, .s l => match si.d with
      | .str => some ([], .s l, [])
      | _ => none
    | .slice te, .s l => match si.d, T.ti te with
      | .str, some ⟨.int .u8, _, _, _, _, _⟩ => some ([l.length ≤ 140737488355328], .sl (.int .u8) (bytesOfStr l), [])
      | _, _ => none
    | .str, x => match si.d with
      | .slice te => match T.ti te with
        | some ⟨.int .u8, _, _, _, _, _⟩ => match viewL h true (.int .u8) x with
          | some xs => some ([], .s (strOfBytes xs), [])
          | none => none
        | _ => none
      | _ => none
    | _, _ => none
  | _, _ => none

def convOwnV (T : Tab) (src dst : TypeId) (x : V) (h : Heap) : R :=
  match Nat.beq src dst, T.ti src, x with
  | true, some ⟨.slice te, _, _, _, _, _⟩, .own id => match T.ti te, lookN h id with
    | some ⟨.int .u8, _, _, _, _, _⟩, some (.arr _ (.int .u8) xs) => some ([0 < xs.length], .sl (.int .u8) xs, setObj h id (.ice (.int .u8) xs))
    | _, _ => none
  | _, _, _ => none

def unV (op : UnOp) (x : V) : Option (List Prop × V) :=
  match op, x with
  | .not, .bl x => some ([], match x with | true => .bl false | false => .bl true)
  | .not, .b x => some ([], .b (!x))
  | .neg, .i k n => some ([], .i k (k.wrap (0 - n)))
  | _, _ => none

def fillV (places : Nat → Option (Nat × Nat)) : List (Nat × V) → List V → Option (List V)
  | [], cs => some cs
  | (j, v) :: r, cs => match places j with
    | some (off, size) => match Nat.beq v.cells.length size && v.cells.all V.one && Nat.ble (off + size) cs.length with
      | true => fillV places r (setAt cs off v.cells)
      | false => none
    | none => none

def placesT (T : Tab) : List (TypeId × Nat) → Option (List (Nat × Nat))
  | [] => some []
  | (ft, off) :: r => match T.ti ft, placesT T r with
    | some i, some ps => some ((off, i.size) :: ps)
    | _, _ => none
def buildV (T : Tab) (t : TypeId) (parts : List (Nat × V)) : R :=
  match T.ti t with
  | some ⟨.struct fs, _, _, zero, _, _⟩ => match placesT T fs with
    | none => none
    | some ps => match fillV (fun j => ps[j]?) parts (zero.map zeroV) with
      | some cs => match (zero.map zeroV).all V.one with
        | true => some ([], .agg cs, [])
        | false => none
      | none => none
  | _ => none
def toRows (h : Heap) (e : Ty) : Nat → List V → Option (List e.den)
  | 0, [] => some []
  | 0, _ => none
  | n + 1, cs => match toDen h false e cs with
    | some (x, r) => match toRows h e n r with
      | some xs => some (x :: xs)
      | none => none
    | none => none
def repL {α : Type} (l : List α) : Nat → List α
  | 0 => []
  | n + 1 => l ++ repL l n
def buildSliceV (T : Tab) (frz : Bool) (t : TypeId) (len : Nat) (parts : List (Nat × V)) (fresh : Nat) (h : Heap) : R :=
  match elemT T t with
  | some (te, e, _, zero) =>
    match fillV (fun j => some (j * e.cells, e.cells)) parts (repL (zero.map zeroV) len), Nat.ble (len * e.cells) 16777216 && (zero.map zeroV).all V.one with
    | some cs, true => match frz with
      | false => match toRows h e len cs with
        | some xs => some ([], .own fresh, [(fresh, .arr te e xs)])
        | none => none
      | true => match toRows (freezeAll h cs) e len cs with
        | some xs => some ([], .own fresh, (fresh, .arr te e xs) :: freezeAll h cs)
        | none => none
    | _, _ => none
  | none => none

def fieldV (T : Tab) (t : TypeId) (x : V) (f : Nat) : Option V :=
  match x, fieldOff T t f with
  | .agg cs, some (ft, off) => match T.ti ft with
    | some i => match Nat.ble (off + i.size) cs.length with
      | true => mkV i.d ((cs.drop off).take i.size)
      | false => none
    | none => none
  | _, _ => none
def fieldAddrV (T : Tab) (t : TypeId) (x : V) (f : Nat) : Option V :=
  match x, fieldOff T t f with
  | .ptr id col, some (_, off) => some (.ptr id (col + off))
  | .rp cs, some (_, off) => some (.rp (cs.drop off))
  | .ep id e row col, some (_, off) => some (.ep id e row (col + off))
  | _, _ => none

def makeSliceV (T : Tab) (t : TypeId) (l c : V) (fresh : Nat) : R :=
  match elemT T t, l, c with
  | some (te, e, bytes, zero), .i _ l, .i _ c => match (zero.map zeroV).all V.one, toDen [] false e (zero.map zeroV) with
    | true, some (z, []) => some ([0 ≤ l, l ≤ c, c * bytes ≤ 140737488355328, c ≤ 140737488355328], .own fresh, [(fresh, .arr te e (List.replicate l.toNat z))])
    | _, _ => none
  | _, _, _ => none

def extremeV (mx : Bool) (x y : V) : Option V :=
  match x, y with
  | .i k a, .i k' b => if k = k' then some (.i k (match mx with | true => (if b > a then b else a) | false => (if b < a then b else a))) else none
  | .s a, .s b => some (.s (match mx with | true => (if !(sless a b) then a else b) | false => (if sless a b || a == b then a else b)))
  | _, _ => none

structure Spec where
  q : List V → Heap → Nat → R
  l : List V → Heap → Nat → R
  k : List V → Heap → Nat → (V → Heap → Prop) → Prop
  t : List V → Heap → Nat → Option (List Prop × V × Nat × Obj)
def noT : List V → Heap → Nat → Option (List Prop × V × Nat × Obj) := fun _ _ _ => none
def noK : List V → Heap → Nat → (V → Heap → Prop) → Prop := fun _ _ _ _ => False
abbrev Specs := FuncId → Option Spec

def shapeV : Ty → V → Bool
  | .pair _ _, .agg cs => cs.all V.one
  | .pair _ _, _ => false
  | _, v => v.one
def callV (S : Specs) (quiet : Bool) (f : V) (args : List V) (fresh : Nat) (h : Heap) : R :=
  match f with
  | .fn g caps => match S g with
    | some s => match quiet with
      | true => s.q (args ++ caps) h fresh
      | false => s.l (args ++ caps) h fresh
    | none => none
  | .lam a b p => match quiet with
    | true => match args with
      | [x] => match shapeV a x, toDen h false a x.cells with
        | true, some (y, []) => some ([], vOfDen b (p y), [])
        | _, _ => none
      | _ => none
    | false => none
  | _ => none

def r2 : Option (List Prop × V) → R
  | some (c, v) => some (c, v, [])
  | none => none
def r1 : Option V → R
  | some v => some ([], v, [])
  | none => none

def stepQ1 (T : Tab) (S : Specs) (o : Oper) (fresh : Nat) (env : Env) (h : Heap) : R :=
  match o.op with
  | .move x | .assign x => some ([], rd env x, [])
  | .pick c a b => match rd env c with
    | .bl true => some ([], rd env a, [])
    | .bl false => some ([], rd env b, [])
    | _ => none
  | .alloc te => match T.ti te with
    | some i => match (i.zero.map zeroV).all V.one with
      | true => some ([], .ptr fresh 0, [(fresh, .box (i.zero.map zeroV))])
      | false => none
    | none => none
  | .box _ x => match (rd env x).cells.all V.one with
    | true => some ([], .ptr fresh 0, [(fresh, .box (rd env x).cells)])
    | false => none
  | .build t parts => buildV T t (parts.toList.map fun p => (p.1, rd env p.2))
  | .buildSlice t len parts => buildSliceV T false t len (parts.toList.map fun p => (p.1, rd env p.2)) fresh h
  | .load t a => loadV T t (rd env a) h
  | .nilCheck x => match rd env x with
    | .ptr id col => some ([], .ptr id col, [])
    | .rp cs => some ([], .rp cs, [])
    | .ep id e r c => some ([], .ep id e r c, [])
    | _ => none
  | .binOp op t x y _ => r2 (binV T op t (rd env x) (rd env y))
  | .unOp op _ x => r2 (unV op (rd env x))
  | .convert src dst x => convV T src dst (rd env x) h
  | .makeFunc (.func f) first caps => match first.toList with
    | [] => some ([], .fn f (caps.toList.map (rd env)), [])
    | _ => none
  | .makeSlice t l c => match exactT T with
    | true => none
    | false => makeSliceV T t (rd env l) (rd env c) fresh
  | .slice t x lo hi mx => sliceV T t (rd env x) (lo.map (rd env)) (hi.map (rd env)) (mx.map (rd env)) h
  | .fieldAddr t x f => r1 (fieldAddrV T t (rd env x) f)
  | .field t x f => r1 (fieldV T t (rd env x) f)
  | .indexAddr t x ix => indexAddrV T t (rd env x) (rd env ix) h
  | .index t x ix => match T.ti t with
    | some ⟨.str, _, _, _, _, _⟩ => r2 (indexV (rd env ix) (rd env x))
    | _ => none
  | .extract x j => match rd env x with
    | .tup vs => r1 vs[j]?
    | _ => none
  | .call ⟨.builtin .len, args, ts⟩ => match args.toList, ts.toList with
    | [x], [t] => lenV T t (rd env x) h
    | _, _ => none
  | .call ⟨.builtin .max, args, _⟩ => match args.toList with
    | [x, y] => r1 (extremeV true (rd env x) (rd env y))
    | _ => none
  | .call ⟨.builtin .min, args, _⟩ => match args.toList with
    | [x, y] => r1 (extremeV false (rd env x) (rd env y))
    | _ => none
  | .call ⟨.value f, args, _⟩ => callV S true (rd env f) (args.toList.map (rd env)) fresh h
  | _ => none
def stepW1 (T : Tab) (S : Specs) (o : Oper) (fresh : Nat) (env : Env) (h : Heap) : R :=
  match o.op with
  | .store t a x => storeV T t (rd env a) (rd env x) h
  | .buildSlice t len parts => buildSliceV T true t len (parts.toList.map fun p => (p.1, rd env p.2)) fresh h
  | .convert src dst x => convOwnV T src dst (rd env x) h
  | .slice t x lo hi mx => sliceOwnV T t (rd env x) (lo.map (rd env)) (hi.map (rd env)) (mx.map (rd env)) fresh h
  | .call ⟨.builtin .append, args, ts⟩ => match args.toList, ts.toList with
    | [s, x], [t, t'] => match Nat.beq t t' with
      | true => appendV T t (rd env s) (rd env x) fresh h
      | false => none
    | _, _ => none
  | .call ⟨.builtin .copy, args, ts⟩ => match args.toList, ts.toList with
    | [s, x], [t, t'] => match Nat.beq t t' with
      | true => copyV T t (rd env s) (rd env x) h
      | false => copyS T t (rd env s) (rd env x) h
    | _, _ => none
  | .call ⟨.value f, args, _⟩ => callV S false (rd env f) (args.toList.map (rd env)) fresh h
  | _ => none

def zeroD (e : Ty) (zero : List ZC) : Option e.den :=
  match (zero.map zeroV).all V.one, toDen [] false e (zero.map zeroV) with
  | true, some (z, []) => some z
  | _, _ => none
def rowsOf (h : Heap) (e : Ty) (x : V) : Option (List Prop × List e.den) :=
  match x with
  | .vw id e' lo n _ => match lookN h id with
    | some (.raw _ e'' xs) => match castO e'' e xs, decEq e' e with
      | some xs, isTrue _ => some ([((xs.drop lo).take n).all Option.isSome = true], ((xs.drop lo).take n).map fun r => r.getD e.dflt)
      | _, _ => none
    | some (.arr _ e'' xs) => match castL e'' e xs, decEq e' e with
      | some xs, isTrue _ => some ([lo + n ≤ xs.length], (xs.drop lo).take n)
      | _, _ => none
    | _ => none
  | x => match viewL h true e x with
    | some ys => some ([], ys)
    | none => none
def loadR (T : Tab) (t : TypeId) (a : V) (h : Heap) : R :=
  match T.ti t with
  | none => none
  | some i => match a with
    | .ep id e row col => match lookN h id with
      | some (.raw _ e' xs) => match castO e' e xs with
        | some xs => match Nat.ble (col + i.size) e.cells with
          | true => mkR [(xs.getD row none).isSome = true] i.d (((ofDen e ((xs.getD row none).getD e.dflt)).drop col).take i.size)
          | false => none
        | none => none
      | _ => none
    | _ => none
def storeR (T : Tab) (t : TypeId) (a x : V) (h : Heap) : R :=
  match T.ti t with
  | none => none
  | some i => match Nat.beq x.cells.length i.size && x.cells.all V.one with
    | false => none
    | true => match a with
      | .ep id e row 0 => match lookN (freezeAll h x.cells) id with
        | some (.raw te e' xs) => match castO e' e xs, Nat.beq i.size e.cells with
          | some xs, true => match toDen (freezeAll h x.cells) false e x.cells with
            | some (y, []) => some ([row < xs.length], .any, setObj (freezeAll h x.cells) id (.raw te e (xs.set row (some y))))
            | _ => none
          | _, _ => none
        | _ => none
      | _ => none
def indexR (T : Tab) (t : TypeId) (x ix : V) : R :=
  match x, ix with
  | .vw id e lo n _, .i _ i => match elemT T t with
    | some (_, e', _, _) => match decEq e' e with
      | isTrue _ => some ([0 ≤ i, i < n], .ep id e (lo + i.toNat) 0, [])
      | isFalse _ => none
    | none => none
  | _, _ => none
def sliceR (T : Tab) (t : TypeId) (x : V) (lo hi mx : Option V) (h : Heap) : R :=
  match elemT T t with
  | none => none
  | some (_, e', _, _) => match x with
    | .vw id e lo0 n true => match decEq e' e, lookN h id, optInt lo 0, optInt hi n with
      | isTrue _, some (.raw _ _ xs), some a, some b => match mx with
        | none => some ([0 ≤ a, a ≤ b, lo0 + b ≤ xs.length], .vw id e (lo0 + a.toNat) (b - a).toNat true, [])
        | some (.i _ m) => match hi with
          | some _ => some ([0 ≤ a, a ≤ b, b ≤ m, lo0 + m ≤ xs.length], .vw id e (lo0 + a.toNat) (b - a).toNat false, [])
          | none => none
        | _ => none
      | _, _, _, _ => none
    | .own id => match lookN h id, mx, hi with
      | some (.arr _ e'' xs), some (.i _ m), some hi => match decEq e'' e', optInt lo 0, optInt (some hi) 0 with
        | isTrue _, some a, some b => some ([0 ≤ a, a ≤ b, b ≤ m, m ≤ xs.length], .vw id e' a.toNat (b - a).toNat false, [])
        | _, _, _ => none
      | _, _, _ => none
    | .nil => match mx, optInt lo 0, optInt hi 0 with
      | none, some a, some b => some ([a = 0, b = 0], .nil, [])
      | _, _, _ => none
    | _ => none
def lenR (T : Tab) (t : TypeId) (x : V) : R :=
  match T.ti t with
  | none => none
  | some i => match isSliceD i.d, x with
    | true, .vw _ _ _ n _ => some ([], .i .i64 (n : Int), [])
    | _, _ => none
def capR (T : Tab) (t : TypeId) (x : V) (h : Heap) : R :=
  match T.ti t with
  | none => none
  | some i => match isSliceD i.d, x with
    | true, .vw id _ lo _ true => match lookN h id with
      | some (.raw _ _ xs) => some ([], .i .i64 ((xs.length : Int) - (lo : Int)), [])
      | _ => none
    | true, .nil => some ([], .i .i64 0, [])
    | _, _ => none
def narrow (n : Nat) : V → V
  | .vw id e lo m _ => .vw id e lo (min m n) false
  | x => x
def copyR (T : Tab) (t : TypeId) (d x : V) (h : Heap) : R :=
  match elemT T t, d with
  | some (te, e, _, _), .vw id e0 lo n _ => match lookN h id with
    | some (.raw te' e' xs) => match Nat.beq te te', castO e' e xs, decEq e0 e, rowsOf h e (narrow n x) with
      | true, some xs, isTrue _, some (c, ys) => some (c, .i .i64 ((min ys.length n : Nat) : Int), setObj h id (.raw te e (xs.take lo ++ (ys.take n).map some ++ xs.drop (lo + (ys.take n).length))))
      | _, _, _, _ => none
    | _ => none
  | _, _ => none
def clearR (T : Tab) (t : TypeId) (d : V) (h : Heap) : R :=
  match elemT T t, d with
  | some (te, e, _, zero), .vw id e0 lo n _ => match lookN h id with
    | some (.raw te' e' xs) => match Nat.beq te te', castO e' e xs, decEq e0 e, zeroD e zero with
      | true, some xs, isTrue _, some z => some ([], .tup [], setObj h id (.raw te e (xs.take lo ++ List.replicate n (some z) ++ xs.drop (lo + n))))
      | _, _, _, _ => none
    | _ => none
  | _, _ => none
def keyV (k : Ty) : V → Option k.den
  | .i q n => match k with
    | .int q' => if q = q' then some n else none
    | _ => none
  | .s l => match k with
    | .str => some l
    | _ => none
  | _ => none
def keyEq : (k : Ty) → k.den → k.den → Bool
  | .int _, a, b => (a : Int) == b
  | .str, a, b => (a : List UInt8) == b
  | _, _, _ => false
def mapGet (k : Ty) {α : Type} (a : k.den) (d : α) : List (k.den × α) → α
  | [] => d
  | (b, v) :: r => if keyEq k a b = true then v else mapGet k a d r
def mapHas (k : Ty) {α : Type} (a : k.den) : List (k.den × α) → Bool
  | [] => false
  | (b, v) :: r => keyEq k a b || mapHas k a r
def mapPut (k : Ty) {α : Type} (a : k.den) (v : α) : List (k.den × α) → List (k.den × α)
  | [] => [(a, v)]
  | (b, u) :: r => if keyEq k a b = true then (a, v) :: r else (b, u) :: mapPut k a v r
def mapDel (k : Ty) {α : Type} (a : k.den) : List (k.den × α) → List (k.den × α)
  | [] => []
  | (b, u) :: r => if keyEq k a b = true then r else (b, u) :: mapDel k a r
def mapT (T : Tab) (t : TypeId) : Option (Ty × Ty × V) :=
  match T.ti t with
  | some ⟨.map tk te, _, _, _, _, true⟩ => match T.ti tk with
    | some ⟨dk, _, _, _, _, _⟩ => match dk with
      | .int q => some (.int q, .bool, .bl false)
      | .str => some (.str, .bool, .bl false)
      | _ => none
    | _ => none
  | _ => none
def lookupV (T : Tab) (t : TypeId) (m ix : V) (commaOk : Bool) (h : Heap) : R :=
  match mapT T t, m with
  | some (k, .bool, .bl z), .mp id => match lookN h id, keyV k ix with
    | some (.map k' e' l), some a => match castM k' k e' .bool l with
      | some l => match commaOk with
        | false => some ([], .b (mapGet k a z l), [])
        | true => some ([], .tup [.b (mapGet k a z l), .b (mapHas k a l)], [])
      | none => none
    | _, _ => none
  | _, _ => none
def makeMapV (T : Tab) (t : TypeId) (fresh : Nat) : R :=
  match mapT T t with
  | some (k, e, _) => some ([], .mp fresh, [(fresh, .map k e [])])
  | none => none
def mapPutV (T : Tab) (t : TypeId) (m ix x : V) (h : Heap) : R :=
  match mapT T t, m, vbool x with
  | some (k, .bool, _), .mp id, some y => match lookN h id, keyV k ix with
    | some (.map k' e' l), some a => match castM k' k e' .bool l with
      | some l => some ([], .any, setObj h id (.map k .bool (mapPut k a y l)))
      | none => none
    | _, _ => none
  | _, _, _ => none
def mapDelV (T : Tab) (t : TypeId) (m ix : V) (h : Heap) : R :=
  match mapT T t, m with
  | some (k, .bool, _), .mp id => match lookN h id, keyV k ix with
    | some (.map k' e' l), some a => match castM k' k e' .bool l with
      | some l => some ([], .tup [], setObj h id (.map k .bool (mapDel k a l)))
      | none => none
    | _, _ => none
  | _, _ => none
def appendNil (T : Tab) (t : TypeId) (s x : V) (fresh : Nat) (h : Heap) : R :=
  match elemT T t, s with
  | some (te, e, bytes, _), .nil => match viewL h true e x with
    | some ys => some ([ys.length * bytes ≤ 140737488355328, ys.length ≤ maxLen], .own fresh, [(fresh, .arr te e ys)])
    | none => none
  | _, _ => none
def assertV (T : Tab) (t : TypeId) (x : V) : Option V :=
  match T.ti t with
  | some i => match isAggD i.d with
    | true => match x with
      | .ifc u v => match Nat.beq u t with
        | true => some (.tup [v, .bl true])
        | false => some (.tup [.any, .bl false])
      | _ => none
    | false => none
  | none => none
def ifaceV (T : Tab) (t : TypeId) (x : V) : Option V :=
  match T.ti t with
  | some i => match isAggD i.d with
    | true => some (.ifc t x)
    | false => none
  | none => none
def stepQ2 (T : Tab) (o : Oper) (fresh : Nat) (env : Env) (h : Heap) : R :=
  match o.op with
  | .load t a => loadR T t (rd env a) h
  | .indexAddr t x ix => indexR T t (rd env x) (rd env ix)
  | .slice t x lo hi mx => sliceR T t (rd env x) (lo.map (rd env)) (hi.map (rd env)) (mx.map (rd env)) h
  | .lookup t m ix ok => lookupV T t (rd env m) (rd env ix) ok h
  | .makeMap t none => makeMapV T t fresh
  | .call ⟨.builtin .len, args, ts⟩ => match args.toList, ts.toList with
    | [x], [t] => lenR T t (rd env x)
    | _, _ => none
  | .call ⟨.builtin .cap, args, ts⟩ => match args.toList, ts.toList with
    | [x], [t] => capR T t (rd env x) h
    | _, _ => none
  | .call ⟨.builtin .append, args, ts⟩ => match args.toList, ts.toList with
    | [s, x], [t, t'] => match Nat.beq t t' with
      | true => appendNil T t (rd env s) (rd env x) fresh h
      | false => none
    | _, _ => none
  | .makeInterface t x => r1 (ifaceV T t (rd env x))
  | .typeAssert x _ t true => r1 (assertV T t (rd env x))
  | _ => none
def stepW2 (T : Tab) (o : Oper) (fresh : Nat) (env : Env) (h : Heap) : R :=
  match o.op with
  | .store t a x => storeR T t (rd env a) (rd env x) h
  | .mapUpdate t m ix x => mapPutV T t (rd env m) (rd env ix) (rd env x) h
  | .call ⟨.builtin .copy, args, ts⟩ => match args.toList, ts.toList with
    | [d, x], [t, t'] => match Nat.beq t t' with
      | true => copyR T t (rd env d) (rd env x) h
      | false => none
    | _, _ => none
  | .call ⟨.builtin .clear, args, ts⟩ => match args.toList, ts.toList with
    | [d], [t] => clearR T t (rd env d) h
    | _, _ => none
  | .call ⟨.builtin .delete, args, ts⟩ => match args.toList, ts.toList with
    | [m, ix], t :: _ => mapDelV T t (rd env m) (rd env ix) h
    | _, _ => none
  | _ => none
def makeSliceX (T : Tab) (t : TypeId) (l c : V) (fresh : Nat) : R :=
  match elemT T t, l, c with
  | some (te, e, bytes, zero), .i _ l, .i _ c => match (zero.map zeroV).all V.one, toDen [] false e (zero.map zeroV) with
    | true, some (z, []) => some ([0 ≤ l, l = c, c * bytes ≤ 140737488355328, c ≤ 140737488355328], .own fresh, [(fresh, .xar te e (List.replicate l.toNat z))])
    | _, _ => none
  | _, _, _ => none
def indexX (T : Tab) (t : TypeId) (x ix : V) (h : Heap) : R :=
  match x, ix with
  | .own id, .i _ n => match lookN h id with
    | some (.arx _ e rows) => match elemT T t with
      | some (_, e', _, _) => match decEq e' (.slice e) with
        | isTrue _ => some ([0 ≤ n, n < rows.length], .ep id (.slice e) n.toNat 0, [])
        | isFalse _ => none
      | none => none
    | _ => none
  | _, _ => none
def loadX (T : Tab) (t : TypeId) (a : V) (h : Heap) : R :=
  match T.ti t, a with
  | some i, .ep id (.slice e) row 0 => match isSliceD i.d && Nat.beq i.size 1, lookN h id with
    | true, some (.arx _ e' rows) => match decEq e' e with
      | isTrue _ => some ([row < rows.length], .os e' (rows.getD row (false, [])).1 (rows.getD row (false, [])).2, [])
      | isFalse _ => none
    | _, _ => none
  | _, _ => none
def lenX (T : Tab) (t : TypeId) (x : V) (h : Heap) : R :=
  match T.ti t with
  | none => none
  | some i => match isSliceD i.d, x with
    | true, .os _ _ xs => some ([], .i .i64 (xs.length : Int), [])
    | true, .own id => match lookN h id with
      | some (.xar _ _ xs) => some ([], .i .i64 (xs.length : Int), [])
      | some (.arx _ _ rows) => some ([], .i .i64 (rows.length : Int), [])
      | _ => none
    | _, _ => none
def appendO (T : Tab) (t : TypeId) (s x : V) (fresh : Nat) (h : Heap) : R :=
  match elemT T t, s with
  | some (te, e, bytes, _), .os e' f xs => match castL e' e xs, viewL h true e x with
    | some xs, some ys => some ([f = true, 0 < ys.length, (xs.length + ys.length) * bytes ≤ 140737488355328, xs.length + ys.length ≤ maxLen], .own fresh, [(fresh, .arr te e (xs ++ ys))])
    | _, _ => none
  | _, _ => none
def stepQ3 (T : Tab) (o : Oper) (fresh : Nat) (env : Env) (h : Heap) : R :=
  match exactT T with
  | false => none
  | true => match o.op with
    | .makeSlice t l c => makeSliceX T t (rd env l) (rd env c) fresh
    | .indexAddr t x ix => indexX T t (rd env x) (rd env ix) h
    | .load t a => loadX T t (rd env a) h
    | .call ⟨.builtin .len, args, ts⟩ => match args.toList, ts.toList with
      | [x], [t] => lenX T t (rd env x) h
      | _, _ => none
    | .call ⟨.builtin .append, args, ts⟩ => match args.toList, ts.toList with
      | [s, x], [t, t'] => match Nat.beq t t' with
        | true => appendO T t (rd env s) (rd env x) fresh h
        | false => none
      | _, _ => none
    | _ => none
def copyX (T : Tab) (t : TypeId) (d x : V) (h : Heap) : R :=
  match elemT T t, d with
  | some (te, e, _, _), .own id => match lookN h id with
    | some (.xar te' e' xs) => match Nat.beq te te', castL e' e xs, viewL h true e x with
      | true, some xs, some ys => some ([], .i .i64 ((min ys.length xs.length : Nat) : Int), setObj h id (.xar te e (ys.take xs.length ++ xs.drop ys.length)))
      | _, _, _ => none
    | _ => none
  | _, _ => none
def buildX (T : Tab) (t : TypeId) (len : Nat) (parts : List (Nat × V)) (fresh : Nat) (h : Heap) : R :=
  match elemT T t, len, parts with
  | some (te, e1, _, zero), 1, [(0, .own id)] => match fillV (fun j => some (j * e1.cells, e1.cells)) [(0, .own id)] (repL (zero.map zeroV) 1), (zero.map zeroV).all V.one, lookN h id with
    | some [.own k], true, some (.xar _ e xs) => match Nat.beq k id, decEq e1 (.slice e) with
      | true, isTrue _ => some ([], .own fresh, (fresh, .arx te e [(true, xs)]) :: setObj h id (.ice e xs))
      | _, _ => none
    | _, _, _ => none
  | _, _, _ => none
def castX (e e' : Ty) (xs : List (Bool × List e.den)) : Option (List (Bool × List e'.den)) :=
  match decEq e e' with
  | isTrue h => h ▸ some xs
  | isFalse _ => none
def appendX (T : Tab) (t : TypeId) (s x : V) (fresh : Nat) (h : Heap) : R :=
  match elemT T t, s, x with
  | some (te, e1, bytes, _), .own id, .own id' => match Nat.beq id id', lookN h id, lookN h id' with
    | false, some (.arx te1 e rows), some (.arx _ e' rows') => match Nat.beq te te1, decEq e1 (.slice e), castX e' e rows' with
      | true, isTrue _, some rows' => some ([(rows.length + rows'.length) * bytes ≤ 140737488355328, rows.length + rows'.length ≤ maxLen], .own fresh, (fresh, .arx te e (rows ++ rows')) :: delObj (delObj h id') id)
      | _, _, _ => none
    | _, _, _ => none
  | _, _, _ => none
def storeX (T : Tab) (t : TypeId) (a x : V) (h : Heap) : R :=
  match T.ti t, a, x with
  | some i, .ep id (.slice e) row 0, .own id' => match Nat.beq i.size 1, lookN (freezeAll h [.own id']) id with
    | true, some (.arx te e' rows) => match decEq e' e, viewL (freezeAll h [.own id']) false e' (.own id') with
      | isTrue _, some ys => some ([row < rows.length], .any, setObj (freezeAll h [.own id']) id (.arx te e' (rows.set row (false, ys))))
      | _, _ => none
    | _, _ => none
  | _, _, _ => none
def stepW3 (T : Tab) (o : Oper) (fresh : Nat) (env : Env) (h : Heap) : R :=
  match exactT T with
  | false => none
  | true => match o.op with
    | .store t a x => storeX T t (rd env a) (rd env x) h
    | .buildSlice t len parts => buildX T t len (parts.toList.map fun p => (p.1, rd env p.2)) fresh h
    | .call ⟨.builtin .append, args, ts⟩ => match args.toList, ts.toList with
      | [s, x], [t, t'] => match Nat.beq t t' with
        | true => appendX T t (rd env s) (rd env x) fresh h
        | false => none
      | _, _ => none
    | .call ⟨.builtin .copy, args, ts⟩ => match args.toList, ts.toList with
      | [d, x], [t, t'] => match Nat.beq t t' with
        | true => copyX T t (rd env d) (rd env x) h
        | false => none
      | _, _ => none
    | _ => none
def stepQ0 (T : Tab) (o : Oper) (env : Env) : R :=
  match rboxT T with
  | false => none
  | true => match o.op with
    | .box _ x => match ((rd env x).cells.all V.one && (rd env x).cells.all V.plain) with
      | true => some ([], .rp (rd env x).cells, [])
      | false => none
    | _ => none
def stepQ (T : Tab) (S : Specs) (o : Oper) (fresh : Nat) (env : Env) (h : Heap) : R :=
  match stepQ0 T o env with
  | some r => some r
  | none => match stepQ1 T S o fresh env h with
    | some r => some r
    | none => match stepQ2 T o fresh env h with
      | some r => some r
      | none => stepQ3 T o fresh env h
def stepW (T : Tab) (S : Specs) (o : Oper) (fresh : Nat) (env : Env) (h : Heap) : R :=
  match stepW3 T o fresh env h with
  | some r => some r
  | none => match stepW1 T S o fresh env h with
    | some r => some r
    | none => stepW2 T o fresh env h

end Go.Eng

set_option linter.unusedVariables false
set_option linter.unusedSimpArgs false
namespace Go.Eng
structure St where
  env : Env
  heap : Heap
inductive Ex where
  | normal | exit (id : Nat) | ret | goto (l : Nat)

def idsL (f : V → List Nat) : List V → List Nat
  | [] => []
  | v :: r => f v ++ idsL f r
def idsStep (f : V → List Nat) (v : V) : List Nat :=
  match v with
  | .own id => [id]
  | .ptr id _ => [id]
  | .ep id _ _ _ => [id]
  | .mp id => [id]
  | .vw id _ _ _ _ => [id]
  | .fn _ cs => idsL f cs
  | .agg cs => idsL f cs
  | .tup cs => idsL f cs
  | .rp cs => idsL f cs
  | .ifc _ v => f v
  | _ => []
def idsV : V → List Nat := idsStep (idsStep (idsStep (idsStep fun _ => [])))
def idsVs : List V → List Nat := idsL idsV
def memN : List Nat → Nat → Bool
  | [], _ => false
  | a :: r, n => match Nat.beq a n with
    | true => true
    | false => memN r n
def addIds (h : Heap) : List Nat → List Nat → List Nat
  | acc, [] => acc
  | acc, n :: r => match memN acc n with
    | true => addIds h acc r
    | false => match lookN h n with
      | some _ => addIds h (acc ++ [n]) r
      | none => addIds h acc r
def idsObj (h : Heap) (n : Nat) : List Nat :=
  match lookN h n with
  | some (.box cs) => idsVs cs
  | _ => []
def renL (f : V → V) : List V → List V
  | [] => []
  | v :: r => f v :: renL f r
def nameL : Nat → Nat → List Nat → List (Nat × Nat)
  | _, _, [] => []
  | 0, b, n :: r => (n, b) :: nameL 0 (b + 1) r
  | k + 1, b, n :: r => (n, n) :: nameL k b r
def renStep (ord : List (Nat × Nat)) (f : V → V) (v : V) : V :=
  match v with
  | .own id => match lookN ord id with
    | some j => .own j
    | none => .any
  | .ptr id col => match lookN ord id with
    | some j => .ptr j col
    | none => .any
  | .ep id e r c => match lookN ord id with
    | some j => .ep j e r c
    | none => .any
  | .mp id => match lookN ord id with
    | some j => .mp j
    | none => .any
  | .vw id e lo n fl => match lookN ord id with
    | some j => .vw j e lo n fl
    | none => .any
  | .fn g cs => .fn g (renL f cs)
  | .agg cs => .agg (renL f cs)
  | .tup cs => .tup (renL f cs)
  | .rp cs => .rp (renL f cs)
  | .ifc t v => .ifc t (f v)
  | v => v
def renV (ord : List (Nat × Nat)) : V → V := renStep ord (renStep ord (renStep ord (renStep ord fun _ => .any)))
def renVs (ord : List (Nat × Nat)) : List V → List V := renL (renV ord)
def renObj (ord : List (Nat × Nat)) : Obj → Obj
  | .box cs => .box (renVs ord cs)
  | o => o
def renHeap (ord : List (Nat × Nat)) (h : Heap) : List (Nat × Nat) → Heap
  | [] => []
  | (n, j) :: r => match lookN h n with
    | some o => (j, renObj ord o) :: renHeap ord h r
    | none => renHeap ord h r
def keepEnv (env : Env) : List Nat → Env
  | [] => []
  | t :: r => match lookN env t with
    | some v => (t, v) :: keepEnv env r
    | none => keepEnv env r
def envIds (env : Env) : List Nat := env.flatMap fun p => idsV p.2
def nodupN : List Nat → Bool
  | [] => true
  | a :: r => match memN r a with
    | true => false
    | false => nodupN r
def normEnv (ord : List (Nat × Nat)) : Env → Env
  | [] => []
  | (t, v) :: r => (t, renV ord v) :: normEnv ord r

def forceN (n : Nat) (k : Nat → Prop) : Prop :=
  match n with
  | 0 => k 0 | 1 => k 1 | 2 => k 2 | 3 => k 3 | 4 => k 4 | 5 => k 5 | 6 => k 6 | 7 => k 7 | 8 => k 8 | 9 => k 9
  | n + 1 => k (n + 1)
def forceL (f : V → (V → Prop) → Prop) : List V → (List V → Prop) → Prop
  | [], k => k []
  | v :: r, k => f v fun v => forceL f r fun r => k (v :: r)
def forceStep (f : V → (V → Prop) → Prop) (v : V) (k : V → Prop) : Prop :=
  match v with
  | .any => k .any
  | .bl x => match x with
    | true => k (.bl true)
    | false => k (.bl false)
  | .b x => k (.b x)
  | .i a n => k (.i a n)
  | .s l => k (.s l)
  | .sl e xs => k (.sl e xs)
  | .nil => k .nil
  | .np => k .np
  | .nf => k .nf
  | .nm => k .nm
  | .own id => forceN id fun id => k (.own id)
  | .ptr id col => forceN id fun id => forceN col fun col => k (.ptr id col)
  | .ep id e r c => forceN id fun id => forceN c fun c => k (.ep id e r c)
  | .mp id => forceN id fun id => k (.mp id)
  | .vw id e lo n fl => forceN id fun id => match fl with
    | true => k (.vw id e lo n true)
    | false => k (.vw id e lo n false)
  | .lam a b p => k (.lam a b p)
  | .fn g cs => forceL f cs fun cs => k (.fn g cs)
  | .agg cs => forceL f cs fun cs => k (.agg cs)
  | .tup cs => forceL f cs fun cs => k (.tup cs)
  | .rp cs => forceL f cs fun cs => k (.rp cs)
  | .ifc t v => f v fun v => k (.ifc t v)
  | .os e x xs => k (.os e x xs)
def forceV : V → (V → Prop) → Prop := forceStep (forceStep (forceStep (forceStep fun v k => k v)))
def forceVs : List V → (List V → Prop) → Prop := forceL forceV
def forceO : Obj → (Obj → Prop) → Prop
  | .box cs, k => forceVs cs fun cs => k (.box cs)
  | .arr te e xs, k => k (.arr te e xs)
  | .ice e xs, k => k (.ice e xs)
  | .map a b l, k => k (.map a b l)
  | .raw te e xs, k => k (.raw te e xs)
  | .xar te e xs, k => k (.xar te e xs)
  | .arx te e rows, k => k (.arx te e rows)
def forceH : Heap → (Heap → Prop) → Prop
  | [], k => k []
  | (n, o) :: r, k => forceN n fun n => forceO o fun o => forceH r fun r => k ((n, o) :: r)
def forceNews : Heap → Heap → (Heap → Prop) → Prop
  | [], h, k => k h
  | (n, o) :: r, h, k => forceN n fun n => forceO o fun o => forceNews r h fun h => k ((n, o) :: h)
def forceE : Env → (Env → Prop) → Prop
  | [], k => k []
  | (n, v) :: r, k => forceN n fun n => forceV v fun v => forceE r fun r => k ((n, v) :: r)
def forceNs : List Nat → (List Nat → Prop) → Prop
  | [], k => k []
  | n :: r, k => forceN n fun n => forceNs r fun r => k (n :: r)

def presN (h : Heap) : List Nat → Bool
  | [] => true
  | n :: r => match lookN h n with
    | some _ => presN h r
    | none => false
def closeK (h : Heap) : Nat → List Nat → (List Nat → Prop) → Prop
  | 0, l, k => k l
  | n + 1, l, k => forceNs (addIds h l (l.flatMap (idsObj h))) fun l' => match Nat.beq l'.length l.length with
    | true => k l
    | false => closeK h n l' k
def prefN : List Nat → List Nat → Bool
  | [], _ => true
  | a :: r, b :: s => match Nat.beq a b with
    | true => prefN r s
    | false => false
  | _ :: _, [] => false
abbrev Pins := List Nat × Nat
def allLt (b : Nat) : List Nat → Bool
  | [] => true
  | a :: r => match Nat.blt a b with
    | true => allLt b r
    | false => false
def forcePs : List (Nat × Nat) → (List (Nat × Nat) → Prop) → Prop
  | [], k => k []
  | (a, b) :: r, k => forceN a fun a => forceN b fun b => forcePs r fun r => k ((a, b) :: r)
def frN (pins : Pins) (h : Heap) : Nat := pins.2 + (h.length - pins.1.length)
def normK (pins : Pins) (keep : List Nat) (env : Env) (h : Heap) (K : St → Prop) : Prop :=
  forceE (keepEnv env keep) fun env1 => forceNs (addIds h pins.1 (envIds env1)) fun l => closeK h 3 l fun ord => match (allLt pins.2 pins.1 && prefN pins.1 ord) && (nodupN ord && presN h ord) with
    | true => forcePs (nameL pins.1.length pins.2 ord) fun names => forceE (normEnv names env1) fun env2 => forceH (renHeap names h names) fun h2 => K ⟨env2, h2⟩
    | false => False
def splitSlot (env : Env) (d : Nat) (k : Env → Prop) : Prop :=
  match lookN env d with
  | some (.b x) => (x = true → Ev (k ((d, .bl true) :: env))) ∧ (x = false → Ev (k ((d, .bl false) :: env)))
  | _ => k env
def putK (env : Env) (dst : Option Nat) (v : V) (k : Env → Prop) : Prop :=
  match dst with
  | some d => k ((d, v) :: env)
  | none => k env
def boolEq : Bool → Bool → Bool
  | true, true => true
  | false, false => true
  | _, _ => false
def pickSlot (o : Oper) : Option Nat :=
  match o.op with
  | .pick (.tmp d) _ _ => some d
  | _ => none
def guardSlot (all : Array Oper) (j : Nat) : Option Nat :=
  match all[j]? with
  | some o => o.dst
  | none => none
def vop (all : Array Oper) (o : Oper) (env : Env) (run : Env → Prop) (skip : Env → Prop) : Prop :=
  let go (env : Env) : Prop := match pickSlot o with
    | some d => splitSlot env d run
    | none => run env
  match o.guard with
  | none => go env
  | some (j, want) => match guardSlot all j with
    | none => False
    | some d => splitSlot env d fun env => match lookN env d with
      | some (.bl y) => match boolEq y want with
        | true => go env
        | false => putK env o.dst (.tup []) skip
      | some (.tup []) => putK env o.dst (.tup []) skip
      | _ => False
def appendR (T : Tab) (t : TypeId) (s x : V) (fresh : Nat) (h : Heap) (K : V → Heap → Prop) : Prop :=
  match elemT T t, s with
  | some (te, e, bytes, _), .vw id e0 lo n true => match lookN h id with
    | some (.raw te' e' xs) => match Nat.beq te te', Nat.beq lo 0, castO e' e xs, decEq e0 e, rowsOf h e x with
      | true, true, some xs, isTrue _, some (c, ys) => conj c (conj [(n + ys.length) * bytes ≤ 140737488355328, n + ys.length ≤ maxLen]
          ((n + ys.length ≤ xs.length → Ev (K (.vw id e 0 (n + ys.length) true) (setObj h id (.raw te e (xs.take n ++ ys.map some ++ xs.drop (n + ys.length)))))) ∧
           (xs.length < n + ys.length → ∀ c : Nat, n + ys.length ≤ c → Ev (K (.vw fresh e 0 (n + ys.length) true) ((fresh, .raw te e (xs.take n ++ ys.map some ++ List.replicate (c - (n + ys.length)) none)) :: h)))))
      | _, _, _, _, _ => False
    | _ => False
  | _, _ => False
def appendZR (T : Tab) (t tn : TypeId) (s x : V) (fresh : Nat) (h : Heap) (K : V → Heap → Prop) : Prop :=
  match elemT T t, s, x, T.ti tn with
  | some (te, e, bytes, zero), .vw id e0 lo n true, .i _ k, some ⟨.int _, _, _, _, _, _⟩ => match lookN h id with
    | some (.raw te' e' xs) => match Nat.beq te te', Nat.beq lo 0, castO e' e xs, decEq e0 e, zeroD e zero with
      | true, true, some xs, isTrue _, some z => conj [0 < k, (xs.length : Int) < n + k, (n + k) * (bytes : Int) ≤ 140737488355328, n + k ≤ (maxLen : Int)]
          (∀ c : Nat, (n : Int) + k ≤ c → Ev (K (.vw fresh e 0 (n + k.toNat) true) ((fresh, .raw te e (xs.take n ++ List.replicate k.toNat (some z) ++ List.replicate (c - (n + k.toNat)) none)) :: h)))
      | _, _, _, _, _ => False
    | _ => False
  | some (te, e, bytes, zero), .nil, .i _ k, some ⟨.int _, _, _, _, _, _⟩ => match zeroD e zero with
    | some z => conj [0 < k, k * (bytes : Int) ≤ 140737488355328, k ≤ (maxLen : Int)] (Ev (K (.own fresh) ((fresh, .arr te e (List.replicate k.toNat z)) :: h)))
    | none => False
  | _, _, _, _ => False
def appendS (T : Tab) (t : TypeId) (s x : V) (h : Heap) (K : V → Heap → Prop) : Prop :=
  match elemT T t, s with
  | some (te, e, bytes, _), .own id => match lookN h id with
    | some (.arr te' e' xs) => match Nat.beq te te', castL e' e xs, rowsOf h e x with
      | true, some xs, some (c, ys) => conj c (conj [0 < xs.length, 0 < ys.length, (xs.length + ys.length) * bytes ≤ 140737488355328, xs.length + ys.length ≤ maxLen] (Ev (K (.sl e (xs ++ ys)) (setObj h id (.ice e xs)))))
      | _, _, _ => False
    | _ => False
  | _, _ => False
def stepKD (T : Tab) (S : Specs) (o : Oper) (fresh : Nat) (env : Env) (h : Heap) (k : Env → Heap → Prop) : Prop :=
  match stepQ T S o fresh env h with
  | some (c, v, news) => conj c (forceV v fun v => putK env o.dst v fun env => forceNews news h fun h => k env h)
  | none => match stepW T S o fresh env h with
    | some (c, v, h') => conj c (forceV v fun v => putK env o.dst v fun env => forceH h' fun h' => k env h')
    | none => False
def thenK (o : Oper) (env : Env) (k : Env → Heap → Prop) (v : V) (h : Heap) : Prop :=
  forceV v fun v => putK env o.dst v fun env => forceH h fun h => k env h
def stepC (T : Tab) (S : Specs) (o : Oper) (fresh : Nat) (env : Env) (h : Heap) (k : Env → Heap → Prop) : Prop :=
  match o.op with
  | .call ⟨.builtin .append, args, ts⟩ => match args.toList, ts.toList with
    | [s, x], [t, t'] => match Nat.beq t t' with
      | true => match shareT T with
        | true => appendS T t (rd env s) (rd env x) h (thenK o env k)
        | false => appendR T t (rd env s) (rd env x) fresh h (thenK o env k)
      | false => appendZR T t t' (rd env s) (rd env x) fresh h (thenK o env k)
    | _, _ => False
  | .call ⟨.value f, args, _⟩ => match rd env f with
    | .fn g caps => match S g with
      | some s => s.k (args.toList.map (rd env) ++ caps) h fresh (thenK o env k)
      | none => False
    | _ => False
  | _ => False
def stepK (T : Tab) (S : Specs) (o : Oper) (fresh : Nat) (env : Env) (h : Heap) (k : Env → Heap → Prop) : Prop :=
  match stepQ T S o fresh env h with
  | some (c, v, news) => conj c (forceV v fun v => putK env o.dst v fun env => forceNews news h fun h => k env h)
  | none => match stepW T S o fresh env h with
    | some (c, v, h') => conj c (forceV v fun v => putK env o.dst v fun env => forceH h' fun h' => k env h')
    | none => stepC T S o fresh env h k
def nilCmp (T : Tab) (o : Oper) (env : Env) (h : Heap) : Option (Bool × Prop) :=
  match o.op with
  | .binOp op t x (.const (.slice none 0 0)) _ => match T.ti t with
    | some ⟨.slice _, _, _, _, _, _⟩ => match op with
      | .eql => match rd env x with
        | .sl _ xs => some (true, xs.length = 0)
        | .own id => match lookN h id with
          | some (.arr _ _ xs) => some (true, xs.length = 0)
          | _ => none
        | _ => none
      | .neq => match rd env x with
        | .sl _ xs => some (false, xs.length = 0)
        | .own id => match lookN h id with
          | some (.arr _ _ xs) => some (false, xs.length = 0)
          | _ => none
        | _ => none
      | _ => none
    | _ => none
  | _ => none
def stepKN (T : Tab) (S : Specs) (o : Oper) (fresh : Nat) (env : Env) (h : Heap) (k : Env → Heap → Prop) : Prop :=
  match nilCmp T o env h with
  | some (p, q) => (q → Ev (putK env o.dst (.bl p) fun env => k env h)) ∧ Ev (putK env o.dst (.bl (match p with | true => false | false => true)) fun env => k env h)
  | none => stepK T S o fresh env h k
def vops (T : Tab) (S : Specs) (all : Array Oper) (n : Nat) (l : List Oper) : Env → Heap → (Env → Heap → Prop) → Prop :=
  List.rec (motive := fun _ => Nat → Env → Heap → (Env → Heap → Prop) → Prop) (fun _ env h K => K env h)
    (fun o _ ih n env h K => vop all o env
      (fun env => stepKN T S o n env h fun env h => forceN (n + 8) fun n' => ih n' env h K)
      (fun env => forceN (n + 8) fun n' => ih n' env h K)) l n
theorem vops_cons (T : Tab) (S : Specs) (all : Array Oper) (n : Nat) (o : Oper) (rest : List Oper) (env : Env) (h : Heap) (K : Env → Heap → Prop) : vops T S all n (o :: rest) env h K = vop all o env
      (fun env => stepKN T S o n env h fun env h => forceN (n + 8) fun n' => vops T S all n' rest env h K)
      (fun env => forceN (n + 8) fun n' => vops T S all n' rest env h K) := rfl

def aft (o : Oper) : List Edge := o.after.toList.filter fun e => Region.binds .any e
def befores (ops : List Oper) : List Nat → List Nat
  | acc => match ops with
    | [] => acc
    | o :: r => befores r (acc ++ [(aft o).foldl (fun s e => s ||| (2 ^ e.on ||| acc.getD e.on 0)) 0])
def operTmps (all : Array Oper) (o : Oper) : List Nat :=
  (o.op.operands.toList.filterMap fun | .tmp t => some t | _ => none) ++
  (match o.guard with
   | some (j, _) => ((guardSlot all j).map fun d => [d]).getD []
   | none => [])
def barrier (befs : List Nat) (i : Nat) : Bool :=
  Nat.beq (befs.getD i 0) (2 ^ i - 1) && (befs.drop (i + 1)).all fun b => b.testBit i
def drawOk (ops : Array Oper) : Bool :=
  let befs := befores ops.toList []
  (ops.toList.zipIdx.all fun (o, i) => (aft o).all fun e => Nat.blt e.on i) &&
  (ops.toList.zipIdx.all fun (o, i) => match o.guard with | some (j, _) => (befs.getD i 0).testBit j | none => true) &&
  -- who writes a slot is ordered with all that name it
  ops.toList.zipIdx.all fun (o, i) => match o.dst with
    | none => true
    | some d => ops.toList.zipIdx.all fun (p, j) =>
      Nat.beq i j || (p.dst != some d && !(operTmps ops p).contains d) || (befs.getD i 0).testBit j || (befs.getD j 0).testBit i
def sub8 (m id : Nat) : Nat := (id - m) / 8
def less (bef dead : Nat) : Nat := bef ^^^ (bef &&& dead)
def heapOf (m n bef dead : Nat) : Heap → Heap
  | [] => []
  | (id, o) :: r => match Nat.blt id m with
    | true => match dead.testBit (n + id) with
      | true => heapOf m n bef dead r
      | false => (id, o) :: heapOf m n bef dead r
    | false => match (less bef dead).testBit (sub8 m id) with
      | true => (id, o) :: heapOf m n bef dead r
      | false => heapOf m n bef dead r
def newsIn (n : Nat) : Heap → Bool
  | [] => true
  | (id, _) :: r => match Nat.ble n id with
    | true => match Nat.blt id (n + 8) with
      | true => newsIn n r
      | false => false
    | false => false
def idsLt (n : Nat) : Heap → Bool
  | [] => true
  | (id, _) :: r => match Nat.blt id n with
    | true => idsLt n r
    | false => false
def stepKQ (T : Tab) (S : Specs) (o : Oper) (fresh : Nat) (envr env : Env) (hr h : Heap) (k : Env → Heap → Prop) : Prop :=
  match stepQ T S o fresh envr hr with
  | some (c, v, news) => match newsIn fresh news with
    | true => conj c (forceV v fun v => putK env o.dst v fun env => forceNews news h fun h => k env h)
    | false => False
  | none => False
def ownCells : List V → List Nat
  | [] => []
  | .own id :: r => id :: ownCells r
  | _ :: r => ownCells r
def eatI (o : Oper) (env : Env) : Option Nat :=
  match o.op with
  | .call ⟨.builtin .append, args, _⟩ => match args.toList with
    | s :: _ => match rd env s with
      | .own id => some id
      | _ => none
    | _ => none
  | .buildSlice _ _ parts => match ownCells (parts.toList.flatMap fun p => (rd env p.2).cells) with
    | [id] => some id
    | _ => none
  | _ => none
def eatC (o : Oper) (m n : Nat) (env : Env) : Option (Nat × Bool) :=
  match eatI o env with
  | some id => match Nat.ble m id with
    | true => some (sub8 m id, false)
    | false => some (n + id, true)
  | none => none
def eatOk (befs : List Nat) (i c : Nat) : Bool :=
  (befs.getD i 0).testBit c && (befs.take i).zipIdx.all fun (b, j) => !b.testBit c || (befs.getD i 0).testBit j
def eatOk2 (befs : List Nat) (i c : Nat) (out : Bool) : Bool :=
  match out with
  | false => eatOk befs i c
  | true => Nat.beq (befs.getD i 0) (2 ^ i - 1)
def stepE (T : Tab) (S : Specs) (o : Oper) (fresh : Nat) (env : Env) (h : Heap) : Option (List Prop × V × Obj) :=
  match eatI o env with
  | none => none
  | some id => match lookN h id with
    | none => none
    | some _ => match stepW1 T S o fresh env h with
      | some (c, v, (f, ob) :: _) => match Nat.beq f fresh with
        | true => some (c, v, ob)
        | false => none
      | _ => none
def wrOk (bef : Nat) : List (Nat × Nat) → Nat → Bool
  | [], _ => true
  | (e, k) :: r, id => match Nat.beq k id with
    | true => match bef.testBit e with
      | true => wrOk bef r id
      | false => false
    | false => wrOk bef r id
def hideN (bef : Nat) (wr : List (Nat × Nat)) : List Nat → List Nat
  | [] => []
  | id :: r => match wrOk bef wr id with
    | true => id :: hideN bef wr r
    | false => hideN bef wr r
def keepH (l : List Nat) : Heap → Heap
  | [] => []
  | (id, o) :: r => match memN l id with
    | true => (id, o) :: keepH l r
    | false => keepH l r
def lgOk (bef : Nat) : List (Nat × List Nat) → Nat → Bool
  | [], _ => true
  | (j, l) :: r, id => match memN l id with
    | true => match bef.testBit j with
      | true => lgOk bef r id
      | false => false
    | false => lgOk bef r id
def storeAt (T : Tab) (o : Oper) (env : Env) (h : Heap) : Option (Nat × Obj) :=
  match o.op with
  | .store t a x => match rd env a with
    | .ptr id col => match storeV T t (.ptr id col) (rd env x) h with
      | some (_, _, h') => match lookN h' id with
        | some ob => some (id, ob)
        | none => none
      | none => none
    | _ => none
  | _ => none
def callAt (S : Specs) (o : Oper) (fresh : Nat) (env : Env) (h : Heap) : Option (List Prop × V × Nat × Obj) :=
  match o.op with
  | .call ⟨.value f, args, _⟩ => match rd env f with
    | .fn g caps => match S g with
      | some s => s.t (args.toList.map (rd env) ++ caps) h fresh
      | none => none
    | _ => none
  | _ => none
def turnAt (T : Tab) (S : Specs) (o : Oper) (fresh : Nat) (env : Env) (h : Heap) : Option (List Prop × V × Nat × Obj) :=
  match storeAt T o env h with
  | some (id, ob) => some ([], .any, id, ob)
  | none => callAt S o fresh env h
def vdraw1 (T : Tab) (S : Specs) (all : Array Oper) (befs bars : List Nat) (m n : Nat) (o : Oper) (ih : Nat → Nat → List (Nat × List Nat) → List (Nat × Nat) → Env → Heap → (Env → Heap → Prop) → Prop) (i dead : Nat) (lg : List (Nat × List Nat)) (wr : List (Nat × Nat)) (env : Env) (h : Heap) (K : Env → Heap → Prop) : Prop :=
  vop all o env
      (fun env => match memN bars i with
        | true => forceH (heapOf m n (2 ^ i - 1) dead h) fun h => stepKD T S o (m + 8 * i) env h fun env h => forceN (i + 1) fun i' => match idsLt (m + 8 * i') h with
          | true => ih i' dead lg wr env h K
          | false => False
        | false => forceH (heapOf m n (befs.getD i 0) dead h) fun h0 => closeK h0 3 (addIds h0 [] (envIds (keepEnv env (operTmps all o)))) fun l => forceNs (hideN (befs.getD i 0) wr l) fun l => forceH (keepH l h0) fun hr => match eatC o m n (keepEnv env (operTmps all o)) with
          | some (c, out) => match eatOk2 befs i c out with
            | true => match stepE T S o (m + 8 * i) (keepEnv env (operTmps all o)) hr with
              | some (cs, v, ob) => conj cs (forceV v fun v => putK env o.dst v fun env => forceNews [(m + 8 * i, ob)] h fun h => forceN (i + 1) fun i' => forceN (dead ||| 2 ^ c) fun dead => ih i' dead ((i, l) :: lg) wr env h K)
              | none => False
            | false => False
          | none => match turnAt T S o (m + 8 * i) (keepEnv env (operTmps all o)) hr with
            | some (cs, v, id, ob) => forceN id fun id => match lgOk (befs.getD i 0) lg id with
              | true => conj cs <| forceV v fun v => putK env o.dst v fun env => forceH (setObj h id ob) fun h => forceN (i + 1) fun i' => ih i' dead ((i, l) :: lg) ((i, id) :: wr) env h K
              | false => False
            | none => stepKQ T S o (m + 8 * i) (keepEnv env (operTmps all o)) env hr h fun env h => forceN (i + 1) fun i' => ih i' dead ((i, l) :: lg) wr env h K)
      (fun env => forceN (i + 1) fun i' => ih i' dead lg wr env h K)
def vdraw (T : Tab) (S : Specs) (all : Array Oper) (befs bars : List Nat) (m n : Nat) (i dead : Nat) (lg : List (Nat × List Nat)) (wr : List (Nat × Nat)) (l : List Oper) : Env → Heap → (Env → Heap → Prop) → Prop :=
  List.rec (motive := fun _ => Nat → Nat → List (Nat × List Nat) → List (Nat × Nat) → Env → Heap → (Env → Heap → Prop) → Prop) (fun i dead _ _ env h K => forceH (heapOf m n (2 ^ i - 1) dead h) fun h => K env h)
    (fun o _ ih i dead lg wr env h K => vdraw1 T S all befs bars m n o ih i dead lg wr env h K) l i dead lg wr
theorem vdraw_nil (T : Tab) (S : Specs) (all : Array Oper) (befs bars : List Nat) (m n i dead : Nat) (lg : List (Nat × List Nat)) (wr : List (Nat × Nat)) (env : Env) (h : Heap) (K : Env → Heap → Prop) : vdraw T S all befs bars m n i dead lg wr [] env h K = forceH (heapOf m n (2 ^ i - 1) dead h) fun h => K env h := rfl
theorem vdraw_cons (T : Tab) (S : Specs) (all : Array Oper) (befs bars : List Nat) (m n i dead : Nat) (lg : List (Nat × List Nat)) (wr : List (Nat × Nat)) (o : Oper) (rest : List Oper) (env : Env) (h : Heap) (K : Env → Heap → Prop) : vdraw T S all befs bars m n i dead lg wr (o :: rest) env h K =
  vdraw1 T S all befs bars m n o (fun i dead lg wr => vdraw T S all befs bars m n i dead lg wr rest) i dead lg wr env h K := rfl

def tailN (bars : List Nat) : Nat → Nat
  | 0 => 0
  | n + 1 => match memN bars n with
    | true => tailN bars n
    | false => n + 1
def belowL (n : Nat) : List Nat → List Nat
  | [] => []
  | a :: r => match Nat.blt a n with
    | true => a :: belowL n r
    | false => belowL n r
def preOps (ops : Array Oper) (n : Nat) : Array Oper := (ops.toList.take n).toArray
def drawOkP (ops : Array Oper) (befs bars : List Nat) : Bool :=
  drawOk ops && (decide (befores ops.toList [] = befs) && bars.all fun b => barrier befs b)
def drawOk2 (ops : Array Oper) (befs bars : List Nat) : Bool :=
  drawOkP ops befs bars && drawOkP (preOps ops (tailN bars ops.size)) (befs.take (tailN bars ops.size)) (belowL (tailN bars ops.size) bars)
def vregion (T : Tab) (S : Specs) (pins : Pins) (keep befs bars : List Nat) (ops : Array Oper) (draw : Bool) (env : Env) (h : Heap) (K : St → Prop) : Prop :=
  match draw with
  | false => forceN (frN pins h) fun m => vops T S ops m ops.toList env h fun env h => normK pins keep env h K
  | true => Leaf (drawOk2 ops befs bars = true) ∧ Ev (forceN (frN pins h) fun m => forceN (tailN bars ops.size) fun n =>
      vdraw T S (preOps ops n) (befs.take n) (belowL n bars) m n 0 0 [] [] (preOps ops n).toList env h fun env h => forceN (m + 8 * n) fun m' => vops T S ops m' (ops.toList.drop n) env h fun env h => normK pins keep env h K)
def pinsOf (keep : List (Nat × List Nat)) : Pins :=
  match lookN keep 3000000 with
  | some l => match lookN keep 3000001 with
    | some (b :: _) => (l, b)
    | _ => (l, l.length)
  | none => ([], 0)
def getN (keep : List (Nat × List Nat)) (id : Nat) : List Nat :=
  match lookN keep id with
  | some l => l
  | none => []

inductive WP where
  | slot (t : Nat) | cell (id j : Nat)
inductive WK where
  | nil (te : TypeId) (e : Ty) | nilx (te : TypeId) (e : Ty) | sl (e : Ty) | b | frz
def weakV (b : Pins) (k : WK) (v : V) (h : Heap) : Option (V × Heap) :=
  match k, v with
  | .nil te e, .nil => match Nat.ble b.1.length h.length with
    | true => some (.own (frN b h), (frN b h, .arr te e []) :: h)
    | false => none
  | .nilx te e, .nil => match Nat.ble b.1.length h.length with
    | true => some (.own (frN b h), (frN b h, .arx te e []) :: h)
    | false => none
  | .sl e, .nil => some (.sl e [], h)
  | .b, .bl x => some (.b x, h)
  | .frz, .own id => match lookN h id with
    | some (.arr _ e xs) => some (.sl e xs, setObj h id (.ice e xs))
    | _ => none
  | _, _ => none
def weak1 (b : Pins) (p : WP) (k : WK) (st : St) : Option St :=
  match p with
  | .slot t => match lookN st.env t with
    | some v => match weakV b k v st.heap with
      | some (v', h') => some ⟨(t, v') :: st.env, h'⟩
      | none => none
    | none => none
  | .cell id j => match lookN st.heap id with
    | some (.box cs) => match cs[j]? with
      | some v => match weakV b k v st.heap with
        | some (v', h') => some ⟨st.env, setObj h' id (.box (setAt cs j [v']))⟩
        | none => none
      | none => none
    | _ => none
def weakSt (b : Pins) : List (WP × WK) → St → Option St
  | [], st => some st
  | (p, k) :: r, st => match weak1 b p k st with
    | some st' => weakSt b r st'
    | none => none
def keysN : Env → List Nat
  | [] => []
  | (k, _) :: r => k :: keysN r
def weakK (pins : Pins) (l : List (WP × WK)) (st : St) (K : St → Prop) : Prop :=
  match weakSt pins l st with
  | some st1 => normK pins (keysN st.env) st1.env st1.heap K
  | none => False

def LoopW (pins : Pins) (round : St → (Ex → St → Prop) → Prop) (st : St) (K : Ex → St → Prop) : Prop :=
  ∃ (α : Type) (f : α → St) (inv : α → Prop) (μ : α → Nat) (a0 : α), (st = f a0 ∨ ∃ l, weakK pins l st (fun s => s = f a0)) ∧ inv a0 ∧
    ∀ a, inv a → round (f a) (fun e s => match e with
      | .normal => Leaf (∃ a', (s = f a' ∨ ∃ l, weakK pins l s (fun s' => s' = f a')) ∧ inv a' ∧ μ a' < μ a)
      | .exit id => K (.exit id) s
      | .ret => K .ret s
      | .goto l => K (.goto l) s)
@[irreducible] def LoopVC (pins : Pins) (round : St → (Ex → St → Prop) → Prop) (st : St) (K : Ex → St → Prop) : Prop :=
  (∃ (α : Type) (f : α → St) (inv : α → Prop) (μ : α → Nat) (a0 : α), (st = f a0 ∨ ∃ l, weakK pins l st (fun s => s = f a0)) ∧ inv a0 ∧
    ∀ a, inv a → round (f a) (fun e s => match e with
      | .normal => Leaf (∃ a', s = f a' ∧ inv a' ∧ μ a' < μ a)
      | .exit id => K (.exit id) s
      | .ret => K .ret s
      | .goto l => K (.goto l) s)) ∨ LoopW pins round st K

abbrev VCf := St → (Ex → St → Prop) → Prop
def vcRegion (T : Tab) (S : Specs) (keep : List (Nat × List Nat)) (id : Nat) (ops : Array Oper) (draw : Bool) (st : St) (K : Ex → St → Prop) : Prop :=
  match lookN keep id with
    | some k => match st with
      | ⟨env, h⟩ => vregion T S (pinsOf keep) k (getN keep (id + 1000000)) (getN keep (id + 2000000)) ops draw env h (K .normal)
    | none => False
def vcSeq (x y : VCf) (st : St) (K : Ex → St → Prop) : Prop :=
  x st fun e st => match e with
    | .normal => y st K
    | .exit id => K (.exit id) st
    | .ret => K .ret st
    | .goto l => K (.goto l) st
def vcCond (c : Operand) (x y : VCf) (st : St) (K : Ex → St → Prop) : Prop :=
  match c with
  | .tmp d => match lookN st.env d with
    | some (.bl true) => x st K
    | some (.bl false) => y st K
    | some (.b c) => (c = true → Ev (x st K)) ∧ (c = false → Ev (y st K))
    | _ => False
  | _ => False
def vcBlock (id : Nat) (x : VCf) (st : St) (K : Ex → St → Prop) : Prop :=
  x st fun e st => match e with
    | .exit id' => match Nat.beq id' id with
      | true => K .normal st
      | false => K (.exit id') st
    | .normal => K .normal st
    | .ret => K .ret st
    | .goto l => K (.goto l) st
def vcScope (x : VCf) (st : St) (K : Ex → St → Prop) : Prop :=
  x st fun e st => match e with
    | .normal => K .normal st
    | .exit id => K (.exit id) st
    | .ret => K .ret st
    | .goto _ => False
def vc (T : Tab) (S : Specs) (keep : List (Nat × List Nat)) (c : Code) : VCf :=
  Code.rec (motive := fun _ => VCf) (fun st K => K .normal st) (fun id ops draw => vcRegion T S keep id ops draw) (fun _ _ x y => vcSeq x y) (fun c _ _ x y => vcCond c x y)
    (fun id _ x => vcBlock id x) (fun _ x st K => LoopVC (pinsOf keep) x st K) (fun _ _ _ _ _ _ _ _ => False) (fun id st K => K (.exit id) st) (fun _ x => vcScope x) (fun _ st K => K .normal st) (fun l st K => K (.goto l) st) (fun st K => K .ret st) (fun _ _ _ => False) c

section
variable (T : Tab) (S : Specs) (keep : List (Nat × List Nat)) (st : St) (K : Ex → St → Prop)
theorem vc_region (id : Nat) (ops : Array Oper) (draw : Bool) : vc T S keep (.region id ops draw) st K = vcRegion T S keep id ops draw st K := rfl
theorem vc_seq (a b : Code) : vc T S keep (.seq a b) st K = vcSeq (vc T S keep a) (vc T S keep b) st K := rfl
theorem vc_cond (c : Operand) (a b : Code) : vc T S keep (.cond c a b) st K = vcCond c (vc T S keep a) (vc T S keep b) st K := rfl
theorem vc_block (id : Nat) (a : Code) : vc T S keep (.block id a) st K = vcBlock id (vc T S keep a) st K := rfl
theorem vc_loop (a : Code) : vc T S keep (.loop a) st K = LoopVC (pinsOf keep) (vc T S keep a) st K := rfl
theorem vc_scope (a : Code) : vc T S keep (.scope a) st K = vcScope (vc T S keep a) st K := rfl
end
def resV1 (T : Tab) (st : St) : ResultVar → Option V
  | .tmp t => lookN st.env t
  | .cell a t => match lookN st.env a with
    | some p => match loadV T t p st.heap with
      | some ([], v, _) => some v
      | _ => none
    | none => none
def resVs (T : Tab) (st : St) : List ResultVar → Option (List V)
  | [] => some []
  | r :: rs => match resV1 T st r, resVs T st rs with
    | some v, some vs => some (v :: vs)
    | _, _ => none
def paramEnv : Nat → List V → Env
  | _, [] => []
  | i, v :: r => (i, v) :: paramEnv (i + 1) r
def vfun (T : Tab) (S : Specs) (keep : List (Nat × List Nat)) (fn : Func) (args : List V) (h : Heap) (Post : V → Heap → Prop) : Prop :=
  match fn.body with
  | none => False
  | some c => vc T S keep c ⟨paramEnv 0 args, h⟩ fun e st =>
    let fin : Prop := match resVs T st fn.results.toList with
      | none => False
      | some [v] => forceV v fun v => Leaf (Post v st.heap)
      | some vs => forceVs vs fun vs => Leaf (Post (.tup vs) st.heap)
    match e with
    | .normal => fin
    | .ret => fin
    | _ => False

def keysH : Heap → List Nat
  | [] => []
  | (k, _) :: r => k :: keysH r
def idNames : List Nat → List (Nat × Nat)
  | [] => []
  | n :: r => (n, n) :: idNames r
def okKeys (ks : List Nat) (fresh : Nat) : List Nat → Bool
  | [] => true
  | k :: r => match memN ks k with
    | true => okKeys ks fresh r
    | false => match Nat.ble fresh k && Nat.blt k (fresh + 7) with
      | true => okKeys ks fresh r
      | false => false
def exitK (ks : List Nat) (fresh : Nat) (h : Heap) (v : V) (K : V → Heap → Prop) : Prop :=
  forceNs (keysH h) fun ks' => match okKeys ks fresh ks' && nodupN ks' with
    | true => forceV (renV (idNames ks') v) fun v => forceH (renHeap (idNames ks') h (idNames ks')) fun h => K v h
    | false => False
def inlK (T : Tab) (S : Specs) (keep : List (Nat × List Nat)) (fn : Func) (args : List V) (h : Heap) (fresh : Nat) (K : V → Heap → Prop) : Prop :=
  match Nat.ble args.length fn.ntmps with
  | true => match fn.body with
    | none => False
    | some c => forceNs (keysH h) fun ks => match allLt fresh ks && nodupN ks with
      | false => False
      | true => forceVs (renVs (idNames ks) args) fun args => forceH (renHeap (idNames ks) h (idNames ks)) fun h =>
        vc T S ((3000000, ks) :: (3000001, [fresh]) :: keep) c ⟨paramEnv 0 args, h⟩ fun e st =>
          let fin : Prop := match resVs T st fn.results.toList with
            | none => False
            | some [v] => exitK ks fresh st.heap v K
            | some vs => exitK ks fresh st.heap (.tup vs) K
          match e with
          | .normal => fin
          | .ret => fin
          | _ => False
  | false => False
def inl (T : Tab) (S : Specs) (keep : List (Nat × List Nat)) (fn : Func) : Spec := ⟨fun _ _ _ => none, fun _ _ _ => none, inlK T S keep fn, noT⟩

end Go.Eng

set_option linter.unusedVariables false
set_option linter.unusedSimpArgs false
namespace Go.Eng
open Go.RowKit (Below)
def rep (w : World) (F : Nat → Prop) : (t : Ty) → t.den → List Value → Prop
  | .bool, x, cs => cs = [.bool x]
  | .int k, n, cs => cs = [.int k n] ∧ k.min ≤ n ∧ n ≤ k.max
  | .str, l, cs => cs = [.string ⟨⟨l⟩⟩] ∧ l.length ≤ maxLen
  | .slice e, xs, cs => ∃ A cap, cs = [.slice A xs.length cap] ∧ xs.length ≤ cap ∧ cap ≤ maxLen ∧ (A = none → cap = 0) ∧
      ∀ i (h : i < xs.length), ∃ a ci, A = some a ∧ F a.block ∧ (∀ (j : Nat) (v : Value), ci[j]? = some v → w.cell? (a.add (i * e.cells + j)) = some v) ∧ rep w F e xs[i] ci
  | .pair a b, x, cs => ∃ c1 c2, cs = c1 ++ c2 ∧ rep w F a x.1 c1 ∧ rep w F b x.2 c2

theorem rep_len {w : World} {F : Nat → Prop} : ∀ (t : Ty) (x : t.den) (cs : List Value), rep w F t x cs → cs.length = t.cells
  | .bool, _, _, h => by simp only [rep] at h; subst h; rfl
  | .int _, _, _, h => by simp only [rep] at h; rw [h.1]; rfl
  | .str, _, _, h => by simp only [rep] at h; rw [h.1]; rfl
  | .slice _, _, _, h => by simp only [rep] at h; obtain ⟨_, _, h, _⟩ := h; rw [h]; rfl
  | .pair a b, x, cs, h => by
    simp only [rep] at h
    obtain ⟨c1, c2, rfl, h1, h2⟩ := h
    rw [List.length_append, rep_len a x.1 c1 h1, rep_len b x.2 c2 h2]; rfl

theorem rep_one {w : World} {F : Nat → Prop} : ∀ (t : Ty) (x : t.den) (cs : List Value), rep w F t x cs → ∀ v ∈ cs, v.oneCell' = true
  | .bool, _, _, h => by simp only [rep] at h; subst h; simp [Value.oneCell']
  | .int _, _, _, h => by simp only [rep] at h; rw [h.1]; simp [Value.oneCell']
  | .str, _, _, h => by simp only [rep] at h; rw [h.1]; simp [Value.oneCell']
  | .slice _, _, _, h => by simp only [rep] at h; obtain ⟨_, _, h, _⟩ := h; rw [h]; simp [Value.oneCell']
  | .pair a b, x, cs, h => by
    simp only [rep] at h
    obtain ⟨c1, c2, rfl, h1, h2⟩ := h
    intro v hv
    rcases List.mem_append.1 hv with hv | hv
    · exact rep_one a x.1 c1 h1 v hv
    · exact rep_one b x.2 c2 h2 v hv

theorem rep_mono {w w' : World} {F F' : Nat → Prop} (hF : ∀ b, F b → F' b ∧ w'.heap[b]? = w.heap[b]?) :
    ∀ (t : Ty) (x : t.den) (cs : List Value), rep w F t x cs → rep w' F' t x cs
  | .bool, _, _, h => by simp only [rep] at h ⊢; exact h
  | .int _, _, _, h => by simp only [rep] at h ⊢; exact h
  | .str, _, _, h => by simp only [rep] at h ⊢; exact h
  | .slice e, xs, cs, h => by
    simp only [rep] at h ⊢
    obtain ⟨A, cap, h1, h2, h3, h4, h5⟩ := h
    refine ⟨A, cap, h1, h2, h3, h4, fun i hi => ?_⟩
    obtain ⟨a, ci, ha, hf, hc, hr⟩ := h5 i hi
    refine ⟨a, ci, ha, (hF _ hf).1, fun j v hv => ?_, rep_mono hF e _ ci hr⟩
    rw [← hc j v hv]
    have hb : (a.add (i * e.cells + j)).block = a.block := by unfold Addr.add; split <;> rfl
    exact World.cell?_of_block (w := w) (by rw [hb]; exact (hF _ hf).2)
  | .pair a b, x, cs, h => by
    simp only [rep] at h ⊢
    obtain ⟨c1, c2, h0, h1, h2⟩ := h
    exact ⟨c1, c2, h0, rep_mono hF a _ c1 h1, rep_mono hF b _ c2 h2⟩

def Ty.flat : Ty → Bool
  | .slice _ => false
  | .pair a b => a.flat && b.flat
  | _ => true
theorem rep_flat {w w' : World} {F F' : Nat → Prop} : ∀ (t : Ty) (x : t.den) (cs : List Value), t.flat = true → rep w F t x cs → rep w' F' t x cs
  | .bool, _, _, _, h => by simp only [rep] at h ⊢; exact h
  | .int _, _, _, _, h => by simp only [rep] at h ⊢; exact h
  | .str, _, _, _, h => by simp only [rep] at h ⊢; exact h
  | .slice _, _, _, hf, _ => by simp [Ty.flat] at hf
  | .pair a b, x, cs, hf, h => by
    simp only [Ty.flat, Bool.and_eq_true] at hf
    simp only [rep] at h ⊢
    obtain ⟨c1, c2, h0, h1, h2⟩ := h
    exact ⟨c1, c2, h0, rep_flat a _ c1 hf.1 h1, rep_flat b _ c2 hf.2 h2⟩

def reps (w : World) (F : Nat → Prop) (e : Ty) : List e.den → List Value → Prop
  | [], cs => cs = []
  | x :: xs, cs => ∃ c r, cs = c ++ r ∧ rep w F e x c ∧ reps w F e xs r
theorem reps_mono {w w' : World} {F F' : Nat → Prop} (hF : ∀ b, F b → F' b ∧ w'.heap[b]? = w.heap[b]?) (e : Ty) :
    ∀ (xs : List e.den) (cs : List Value), reps w F e xs cs → reps w' F' e xs cs
  | [], _, h => h
  | x :: xs, _, ⟨c, r, h0, h1, h2⟩ => ⟨c, r, h0, rep_mono hF e x c h1, reps_mono hF e xs r h2⟩
theorem reps_flat {w w' : World} {F F' : Nat → Prop} (e : Ty) (hf : e.flat = true) :
    ∀ (xs : List e.den) (cs : List Value), reps w F e xs cs → reps w' F' e xs cs
  | [], _, h => h
  | x :: xs, _, ⟨c, r, h0, h1, h2⟩ => ⟨c, r, h0, rep_flat e x c hf h1, reps_flat e hf xs r h2⟩
theorem reps_len {w : World} {F : Nat → Prop} (e : Ty) : ∀ (xs : List e.den) (cs : List Value), reps w F e xs cs → cs.length = xs.length * e.cells
  | [], _, h => by simp only [reps] at h; subst h; simp
  | x :: xs, _, ⟨c, r, h0, h1, h2⟩ => by
    rw [h0, List.length_append, rep_len e x c h1, reps_len e xs r h2, List.length_cons, Nat.add_mul, Nat.one_mul, Nat.add_comm]
theorem reps_one {w : World} {F : Nat → Prop} (e : Ty) : ∀ (xs : List e.den) (cs : List Value), reps w F e xs cs → ∀ v ∈ cs, v.oneCell' = true
  | [], _, h => by simp only [reps] at h; subst h; simp
  | x :: xs, _, ⟨c, r, h0, h1, h2⟩ => by
    subst h0
    intro v hv
    rcases List.mem_append.1 hv with hv | hv
    · exact rep_one e x c h1 v hv
    · exact reps_one e xs r h2 v hv
theorem reps_append {w : World} {F : Nat → Prop} (e : Ty) : ∀ (xs ys : List e.den) (cs ds : List Value), reps w F e xs cs → reps w F e ys ds → reps w F e (xs ++ ys) (cs ++ ds)
  | [], _, _, _, h, h' => by simp only [reps] at h; subst h; simpa using h'
  | x :: xs, ys, _, ds, ⟨c, r, h0, h1, h2⟩, h' => ⟨c, r ++ ds, by rw [h0, List.append_assoc], h1, reps_append e xs ys r ds h2 h'⟩
theorem reps_at {w : World} {F : Nat → Prop} (e : Ty) : ∀ (xs : List e.den) (cs : List Value), reps w F e xs cs → ∀ i (h : i < xs.length),
    ∃ c, rep w F e xs[i] c ∧ (cs.drop (i * e.cells)).take e.cells = c
  | [], _, _, i, h => by simp at h
  | x :: xs, _, ⟨c, r, h0, h1, h2⟩, 0, _ => by
    refine ⟨c, h1, ?_⟩
    subst h0
    rw [Nat.zero_mul, List.drop_zero, ← rep_len e x c h1, List.take_left']
    rfl
  | x :: xs, _, ⟨c, r, h0, h1, h2⟩, i + 1, h => by
    obtain ⟨c', hc, hd⟩ := reps_at e xs r h2 i (by simpa using h)
    refine ⟨c', hc, ?_⟩
    subst h0
    rw [← hd, Nat.add_mul, Nat.one_mul, Nat.add_comm, ← rep_len e x c h1, ← List.drop_drop, List.drop_left']
    rfl
theorem reps_take {w : World} {F : Nat → Prop} (e : Ty) : ∀ (xs : List e.den) (cs : List Value), reps w F e xs cs → ∀ n, reps w F e (xs.take n) (cs.take (n * e.cells))
  | [], _, h, n => by simp only [reps] at h; subst h; simp [reps]
  | x :: xs, _, ⟨c, r, h0, h1, h2⟩, 0 => by simp [reps]
  | x :: xs, _, ⟨c, r, h0, h1, h2⟩, n + 1 => by
    refine ⟨c, r.take (n * e.cells), ?_, h1, reps_take e xs r h2 n⟩
    subst h0
    rw [Nat.add_mul, Nat.one_mul, Nat.add_comm, ← rep_len e x c h1, List.take_append, List.take_of_length_le (by omega)]
    congr 2
    omega
theorem reps_drop {w : World} {F : Nat → Prop} (e : Ty) : ∀ (xs : List e.den) (cs : List Value), reps w F e xs cs → ∀ n, reps w F e (xs.drop n) (cs.drop (n * e.cells))
  | [], _, h, n => by simp only [reps] at h; subst h; simp [reps]
  | x :: xs, cs, h, 0 => by simpa using h
  | x :: xs, _, ⟨c, r, h0, h1, h2⟩, n + 1 => by
    subst h0
    have hd : (c ++ r).drop ((n + 1) * e.cells) = r.drop (n * e.cells) := by
      rw [Nat.add_mul, Nat.one_mul, Nat.add_comm, ← rep_len e x c h1, ← List.drop_drop, List.drop_left' rfl]
    rw [hd, List.drop_succ_cons]
    exact reps_drop e xs r h2 n

structure Cx where
  P : Program
  w0 : World
  M0 : Nat → Prop
  F0 : Nat → Prop
  pins : Pins
  A0 : Nat → Value
  lw : World
  lK : Nat → Prop
structure Gh where
  anch : Nat → Value
  F : Nat → Prop
  U : Nat → Prop

def shape : Ty → Value → Prop
  | .pair _ _, x => ∃ cs, x = .agg cs
  | _, x => x.oneCell' = true
def LamOk (P : Program) (w : World) (K : Nat → Prop) (F : Nat → Prop) (a b : Ty) (p : a.den → b.den) (v : Value) : Prop :=
  ∃ f caps, v = .func (.func f) #[] caps ∧ (∃ fn, P.funcs[f]? = some fn ∧ fn.name ≠ "runtime.NumGoroutine" ∧ fn.body.isSome = true) ∧ ∀ (w' : World) (F' : Nat → Prop) (x : a.den) (xv : Value),
    (∀ c, K c → w'.heap[c]? = w.heap[c]?) → w.heap.size ≤ w'.heap.size → (∀ c, F c → F' c) → (∀ c, F' c → c < w'.heap.size) → shape a xv → rep w' F' a x xv.cells.toList →
    Calls P f (#[xv] ++ caps) w' fun e w'' => ∃ r, e = .returned r ∧ Below w'.heap.size w' w'' ∧ shape b r ∧
      rep w'' (fun c => F' c ∨ (w'.heap.size ≤ c ∧ c < w''.heap.size)) b (p x) r.cells.toList

section
variable (C : Cx) (w : World) (g : Gh)
def Cx.K (c : Nat) : Prop := c < C.w0.heap.size ∧ ¬ C.M0 c
mutual
def RV : V → Value → Prop
  | .any, _ => True
  | .bl x, v => v = .bool x
  | .b x, v => v = .bool x
  | .i k n, v => v = .int k n ∧ k.min ≤ n ∧ n ≤ k.max
  | .s l, v => v = .string ⟨⟨l⟩⟩ ∧ l.length ≤ maxLen
  | .sl e xs, v => rep w g.F (.slice e) xs [v]
  | .nil, v => v = .slice none 0 0
  | .np, v => v = .pointer none
  | .nf, v => v = .nilFunc
  | .nm, v => v = .map none
  | .own id, v => g.U id ∧ v = g.anch id ∧ ∃ A n c, v = .slice A n c
  | .ptr id col, v => g.U id ∧ ∃ a, g.anch id = .pointer (some a) ∧ v = .pointer (some (a.add col))
  | .ep id e row col, v => g.U id ∧ ∃ a n c, g.anch id = .slice (some a) n c ∧ v = .pointer (some (a.add (row * e.cells + col)))
  | .mp id, v => g.U id ∧ v = g.anch id ∧ ∃ r, v = .map r
  | .vw id e lo n fl, v => g.U id ∧ ∃ A m c A' c', g.anch id = .slice A m c ∧ (A = none → c = 0) ∧ c ≤ maxLen ∧ v = .slice A' n c' ∧ lo + c' ≤ c ∧ n ≤ c' ∧ (fl = true → lo + c' = c) ∧ ((c' = 0 ∧ lo ≠ 0) ∨ A' = A.map (·.add (lo * e.cells)))
  | .lam a b p, v => LamOk C.P C.lw C.lK g.F a b p v
  | .fn f cs, v => ∃ vs, v = .func (.func f) #[] vs.toArray ∧ RVs cs vs
  | .agg cs, v => ∃ vs, v = .agg vs.toArray ∧ RVs cs vs
  | .tup cs, v => ∃ vs, v = .tuple vs.toArray ∧ RVs cs vs
  | .rp cs, v => ∃ a vs, v = .pointer (some a) ∧ g.F a.block ∧ (∀ (j : Nat) (x : Value), vs[j]? = some x → w.cell? (a.add j) = some x) ∧ RVs cs vs
  | .ifc t u, v => ∃ x, v = .iface t x ∧ RV u x
  | .os e f xs, v => rep w g.F (.slice e) xs [v] ∧ (f = true → ∃ A, v = .slice A xs.length xs.length)
def RVs : List V → List Value → Prop
  | [], vs => vs = []
  | c :: cs, vs => ∃ x xs, vs = x :: xs ∧ RV c x ∧ RVs cs xs
end
def ablk : Value → Option Nat
  | .pointer (some a) => some a.block
  | .slice (some a) _ _ => some a.block
  | .map (some r) => some r
  | _ => none
def MutOk (b : Nat) : Prop := (C.M0 b ∨ C.w0.heap.size ≤ b) ∧ ¬ g.F b
def Obj.mut : Obj → Bool
  | .box _ => true
  | .arr _ _ _ => true
  | .ice _ _ => false
  | .map _ _ _ => true
  | .raw _ _ _ => true
  | .xar _ _ _ => true
  | .arx _ _ _ => true
def rawRep (w : World) (F : Nat → Prop) (e : Ty) (xs : List (Option e.den)) (cs : List Value) : Prop :=
  ∀ (i : Nat) (x : e.den), xs[i]? = some (some x) → rep w F e x ((cs.drop (i * e.cells)).take e.cells)
def keyRep : (k : Ty) → k.den → Value → Prop
  | .int q, n, v => v = .int q n ∧ q.min ≤ n ∧ n ≤ q.max
  | .str, l, v => v = .string ⟨⟨l⟩⟩ ∧ l.length ≤ maxLen
  | _, _, _ => False
def mapRep (k e : Ty) (w : World) (F : Nat → Prop) : List (k.den × e.den) → List MapEntry → Prop
  | [], es => es = []
  | (a, v) :: r, es => ∃ x xs, es = x :: xs ∧ keyRep k a x.key ∧ rep w F e v [x.val] ∧ mapRep k e w F r xs
def RO (id : Nat) : Obj → Prop
  | .box cs => ∃ blk vs te, g.anch id = .pointer (some ⟨blk, 0, none⟩) ∧ w.heap[blk]? = some (.cells vs.toArray te (0, 0)) ∧ RVs C w g cs vs ∧ (∀ v ∈ vs, v.oneCell' = true) ∧ MutOk C g blk
  | .arr te e xs => ∃ cells, w.ownsRow 0 te e.cells (g.anch id) xs.length cells ∧ reps w g.F e xs cells ∧ 0 < e.cells ∧ (∀ b, ablk (g.anch id) = some b → MutOk C g b)
  | .ice e xs => rep w g.F (.slice e) xs [g.anch id]
  | .map k e l => ∃ blk es clock, g.anch id = .map (some blk) ∧ w.heap[blk]? = some (.map es clock) ∧ mapRep k e w g.F l es.toList ∧ Go.MapKept.Stamped es clock ∧ MutOk C g blk
  | .raw te e xs => 0 < e.cells ∧ ((g.anch id = .slice none 0 0 ∧ xs = []) ∨ ∃ blk n cur, g.anch id = .slice (some ⟨blk, 0, none⟩) n xs.length ∧ w.heap[blk]? = some (.cells cur te (0, 0)) ∧ n ≤ xs.length ∧ xs.length ≤ maxLen ∧ cur.size = xs.length * e.cells ∧ rawRep w g.F e xs cur.toList ∧ MutOk C g blk)
  | .xar te e xs => (∃ cells, w.ownsRow 0 te e.cells (g.anch id) xs.length cells ∧ reps w g.F e xs cells ∧ 0 < e.cells ∧ (∀ b, ablk (g.anch id) = some b → MutOk C g b)) ∧ ∃ A, g.anch id = .slice A xs.length xs.length
  | .arx te e rows => ∃ cells, w.ownsRow 0 te 1 (g.anch id) rows.length cells ∧ reps w g.F (.slice e) (rows.map fun p => p.2) cells ∧ (∀ (i : Nat) (f : Bool) (xs : List e.den), rows[i]? = some (f, xs) → f = true → ∃ A, cells[i]? = some (.slice A xs.length xs.length)) ∧ (∀ b, ablk (g.anch id) = some b → MutOk C g b)
end
section
variable {C : Cx} {w w' : World} {g g' : Gh}
theorem RVs_len : ∀ {cs : List V} {vs : List Value}, RVs C w g cs vs → vs.length = cs.length
  | [], _, h => by simp only [RVs] at h; subst h; rfl
  | c :: cs, _, h => by
    simp only [RVs] at h
    obtain ⟨x, xs, rfl, _, h2⟩ := h
    simp [RVs_len h2]
theorem RVs_append : ∀ {cs ds : List V} {vs us : List Value}, RVs C w g cs vs → RVs C w g ds us → RVs C w g (cs ++ ds) (vs ++ us)
  | [], _, _, _, h, h' => by simp only [RVs] at h; subst h; simpa using h'
  | c :: cs, ds, _, us, h, h' => by
    simp only [RVs] at h
    obtain ⟨x, xs, rfl, h1, h2⟩ := h
    simp only [List.cons_append, RVs]
    exact ⟨x, xs ++ us, rfl, h1, RVs_append h2 h'⟩
theorem RVs_split : ∀ {cs ds : List V} {vs : List Value}, RVs C w g (cs ++ ds) vs → ∃ us ts, vs = us ++ ts ∧ RVs C w g cs us ∧ RVs C w g ds ts
  | [], ds, vs, h => ⟨[], vs, rfl, by simp [RVs], h⟩
  | c :: cs, ds, vs, h => by
    simp only [List.cons_append, RVs] at h
    obtain ⟨x, xs, rfl, h1, h2⟩ := h
    obtain ⟨us, ts, rfl, h3, h4⟩ := RVs_split h2
    exact ⟨x :: us, ts, rfl, by simp only [RVs]; exact ⟨x, us, rfl, h1, h3⟩, h4⟩
theorem RVs_at : ∀ {cs : List V} {vs : List Value}, RVs C w g cs vs → ∀ {j : Nat} {c : V}, cs[j]? = some c → ∃ v, vs[j]? = some v ∧ RV C w g c v
  | [], _, _, _, _, h => by simp at h
  | c :: cs, _, h, 0, c', hj => by
    simp only [RVs] at h
    obtain ⟨x, xs, rfl, h1, h2⟩ := h
    simp at hj; subst hj
    exact ⟨x, rfl, h1⟩
  | c :: cs, _, h, j + 1, c', hj => by
    simp only [RVs] at h
    obtain ⟨x, xs, rfl, h1, h2⟩ := h
    simpa using RVs_at h2 (by simpa using hj)
theorem RVs_drop : ∀ (n : Nat) {cs : List V} {vs : List Value}, RVs C w g cs vs → RVs C w g (cs.drop n) (vs.drop n)
  | 0, _, _, h => h
  | n + 1, [], _, h => by simp only [RVs] at h; subst h; simp [RVs]
  | n + 1, c :: cs, _, h => by
    simp only [RVs] at h
    obtain ⟨x, xs, rfl, h1, h2⟩ := h
    simpa using RVs_drop n h2
theorem RVs_take : ∀ (n : Nat) {cs : List V} {vs : List Value}, RVs C w g cs vs → RVs C w g (cs.take n) (vs.take n)
  | 0, _, _, _ => by simp [RVs]
  | n + 1, [], _, h => by simp only [RVs] at h; subst h; simp [RVs]
  | n + 1, c :: cs, _, h => by
    simp only [RVs] at h
    obtain ⟨x, xs, rfl, h1, h2⟩ := h
    simp only [List.take_succ_cons, RVs]
    exact ⟨x, xs.take n, rfl, h1, RVs_take n h2⟩

structure Evo (w : World) (g : Gh) (w' : World) (g' : Gh) : Prop where
  F : ∀ b, g.F b → g'.F b ∧ w'.heap[b]? = w.heap[b]?
  A : ∀ id, g.U id → g'.U id ∧ g'.anch id = g.anch id
theorem Evo.refl (w : World) (g : Gh) : Evo w g w g := ⟨fun _ h => ⟨h, rfl⟩, fun _ h => ⟨h, rfl⟩⟩
theorem Evo.trans {w'' : World} {g'' : Gh} (h : Evo w g w' g') (k : Evo w' g' w'' g'') : Evo w g w'' g'' :=
  ⟨fun b hb => ⟨(k.F b (h.F b hb).1).1, (k.F b (h.F b hb).1).2.trans (h.F b hb).2⟩, fun id hi => ⟨(k.A id (h.A id hi).1).1, (k.A id (h.A id hi).1).2.trans (h.A id hi).2⟩⟩

def Cx.Pin (C : Cx) (g : Gh) : Prop := ∀ j ∈ C.pins.1, g.U j ∧ g.anch j = C.A0 j
theorem Evo.pin (h : Evo w g w' g') {C : Cx} (k : C.Pin g) : C.Pin g' := fun j hj => ⟨(h.A j (k j hj).1).1, (h.A j (k j hj).1).2.trans (k j hj).2⟩

theorem rawRep_mono {w w' : World} {F F' : Nat → Prop} (hF : ∀ b, F b → F' b ∧ w'.heap[b]? = w.heap[b]?) {e : Ty} {xs : List (Option e.den)} {cs : List Value} (h : rawRep w F e xs cs) : rawRep w' F' e xs cs :=
  fun i x hi => rep_mono hF e x _ (h i x hi)
theorem mapRep_mono {w w' : World} {F F' : Nat → Prop} (hF : ∀ b, F b → F' b ∧ w'.heap[b]? = w.heap[b]?) {k e : Ty} : ∀ {l : List (k.den × e.den)} {es : List MapEntry}, mapRep k e w F l es → mapRep k e w' F' l es
  | [], _, h => h
  | (a, v) :: r, _, ⟨x, xs, h0, h1, h2, h3⟩ => ⟨x, xs, h0, h1, rep_mono hF e v _ h2, mapRep_mono hF h3⟩
theorem add_block (a : Addr) (n : Nat) : (a.add n).block = a.block := by unfold Addr.add; split <;> rfl
theorem add_add (a : Addr) (i j : Nat) : (a.add i).add j = a.add (i + j) := by
  unfold Addr.add
  by_cases hi : i = 0 <;> by_cases hj : j = 0 <;> simp [hi, hj, Nat.add_assoc]

mutual
theorem RV_mono (h : Evo w g w' g') : ∀ (v : V) (x : Value), RV C w g v x → RV C w' g' v x
  | .any, _, _ => by simp [RV]
  | .bl _, _, hv => by simp only [RV] at hv ⊢; exact hv
  | .b _, _, hv => by simp only [RV] at hv ⊢; exact hv
  | .i _ _, _, hv => by simp only [RV] at hv ⊢; exact hv
  | .s _, _, hv => by simp only [RV] at hv ⊢; exact hv
  | .sl e xs, v, hv => by simp only [RV] at hv ⊢; exact rep_mono h.F _ _ _ hv
  | .nil, _, hv => by simp only [RV] at hv ⊢; exact hv
  | .np, _, hv => by simp only [RV] at hv ⊢; exact hv
  | .nf, _, hv => by simp only [RV] at hv ⊢; exact hv
  | .nm, _, hv => by simp only [RV] at hv ⊢; exact hv
  | .own id, _, hv => by
    simp only [RV] at hv ⊢
    exact ⟨(h.A id hv.1).1, by rw [(h.A id hv.1).2]; exact hv.2.1, hv.2.2⟩
  | .ptr id col, _, hv => by
    simp only [RV] at hv ⊢
    exact ⟨(h.A id hv.1).1, by rw [(h.A id hv.1).2]; exact hv.2⟩
  | .ep id e r c, _, hv => by
    simp only [RV] at hv ⊢
    exact ⟨(h.A id hv.1).1, by rw [(h.A id hv.1).2]; exact hv.2⟩
  | .mp id, _, hv => by
    simp only [RV] at hv ⊢
    exact ⟨(h.A id hv.1).1, by rw [(h.A id hv.1).2]; exact hv.2⟩
  | .vw id e lo n fl, _, hv => by
    simp only [RV] at hv ⊢
    exact ⟨(h.A id hv.1).1, by rw [(h.A id hv.1).2]; exact hv.2⟩
  | .lam a b p, _, hv => by
    simp only [RV, LamOk] at hv ⊢
    obtain ⟨f, caps, h1, h0, h2⟩ := hv
    exact ⟨f, caps, h1, h0, fun w1 F1 x xv hk hs hf => h2 w1 F1 x xv hk hs (fun c hc => hf c (h.F c hc).1)⟩
  | .fn f cs, v, hv => by
    simp only [RV] at hv ⊢
    obtain ⟨vs, h1, h2⟩ := hv
    exact ⟨vs, h1, RVs_mono h cs vs h2⟩
  | .agg cs, v, hv => by
    simp only [RV] at hv ⊢
    obtain ⟨vs, h1, h2⟩ := hv
    exact ⟨vs, h1, RVs_mono h cs vs h2⟩
  | .tup cs, v, hv => by
    simp only [RV] at hv ⊢
    obtain ⟨vs, h1, h2⟩ := hv
    exact ⟨vs, h1, RVs_mono h cs vs h2⟩
  | .rp cs, v, hv => by
    simp only [RV] at hv ⊢
    obtain ⟨a, vs, h1, h2, h3, h4⟩ := hv
    refine ⟨a, vs, h1, (h.F _ h2).1, fun j x hx => ?_, RVs_mono h cs vs h4⟩
    rw [← h3 j x hx]
    exact World.cell?_of_block (w := w) (by rw [add_block]; exact (h.F _ h2).2)
  | .ifc t u, v, hv => by
    simp only [RV] at hv ⊢
    obtain ⟨x, h1, h2⟩ := hv
    exact ⟨x, h1, RV_mono h u x h2⟩
  | .os e f xs, v, hv => by simp only [RV] at hv ⊢; exact ⟨rep_mono h.F _ _ _ hv.1, hv.2⟩
theorem RVs_mono (h : Evo w g w' g') : ∀ (cs : List V) (vs : List Value), RVs C w g cs vs → RVs C w' g' cs vs
  | [], _, hv => by simp only [RVs] at hv ⊢; exact hv
  | c :: cs, _, hv => by
    simp only [RVs] at hv ⊢
    obtain ⟨x, xs, h1, h2, h3⟩ := hv
    exact ⟨x, xs, h1, RV_mono h c x h2, RVs_mono h cs xs h3⟩
end
theorem RV_one : ∀ {v : V} {x : Value}, v.one = true → RV C w g v x → x.oneCell' = true
  | .any, _, h, _ => by simp [V.one] at h
  | .bl _, _, _, hv => by simp only [RV] at hv; subst hv; rfl
  | .b _, _, _, hv => by simp only [RV] at hv; subst hv; rfl
  | .i _ _, _, _, hv => by simp only [RV] at hv; rw [hv.1]; rfl
  | .s _, _, _, hv => by simp only [RV] at hv; rw [hv.1]; rfl
  | .sl e xs, v, _, hv => by simp only [RV] at hv; exact rep_one _ _ _ hv v (by simp)
  | .nil, _, _, hv => by simp only [RV] at hv; subst hv; rfl
  | .np, _, _, hv => by simp only [RV] at hv; subst hv; rfl
  | .nf, _, _, hv => by simp only [RV] at hv; subst hv; rfl
  | .nm, _, _, hv => by simp only [RV] at hv; subst hv; rfl
  | .own id, _, _, hv => by simp only [RV] at hv; obtain ⟨_, _, A, n, c, rfl⟩ := hv; rfl
  | .ptr id col, _, _, hv => by simp only [RV] at hv; obtain ⟨_, a, _, rfl⟩ := hv; rfl
  | .ep id e r c, _, _, hv => by simp only [RV] at hv; obtain ⟨_, a, _, _, _, rfl⟩ := hv; rfl
  | .mp id, _, _, hv => by simp only [RV] at hv; obtain ⟨_, _, r, rfl⟩ := hv; rfl
  | .vw id e lo n fl, _, _, hv => by simp only [RV] at hv; obtain ⟨_, A, m, c, A', c', _, _, _, rfl, _⟩ := hv; rfl
  | .lam a b p, _, _, hv => by simp only [RV, LamOk] at hv; obtain ⟨_, _, rfl, _⟩ := hv; rfl
  | .fn f cs, _, _, hv => by simp only [RV] at hv; obtain ⟨_, rfl, _⟩ := hv; rfl
  | .agg _, _, h, _ => by simp [V.one] at h
  | .tup _, _, h, _ => by simp [V.one] at h
  | .rp cs, _, _, hv => by simp only [RV] at hv; obtain ⟨_, _, rfl, _⟩ := hv; rfl
  | .ifc t u, _, _, hv => by simp only [RV] at hv; obtain ⟨_, rfl, _⟩ := hv; rfl
  | .os e f xs, v, _, hv => by simp only [RV] at hv; exact rep_one _ _ _ hv.1 v (by simp)
theorem RVs_one : ∀ {cs : List V} {vs : List Value}, cs.all V.one = true → RVs C w g cs vs → ∀ v ∈ vs, v.oneCell' = true
  | [], _, _, h => by simp only [RVs] at h; subst h; simp
  | c :: cs, _, ha, h => by
    simp only [RVs] at h
    obtain ⟨x, xs, rfl, h1, h2⟩ := h
    simp only [List.all_cons, Bool.and_eq_true] at ha
    intro v hv
    rcases List.mem_cons.1 hv with rfl | hv
    · exact RV_one ha.1 h1
    · exact RVs_one ha.2 h2 v hv

theorem RV_cells {v : V} {x : Value} (h : RV C w g v x) (hone : v.cells.all V.one = true) : RVs C w g v.cells x.cells.toList := by
  have single : ∀ {u : V}, u.cells = [u] → RV C w g u x → u.one = true → RVs C w g u.cells x.cells.toList := by
    intro u hu hr ho
    have := RV_one ho hr
    rw [hu]
    simp only [RVs]
    refine ⟨x, [], ?_, hr, rfl⟩
    cases x <;> simp [Value.oneCell'] at this <;> rfl
  cases v
  case agg cs =>
    simp only [RV] at h
    obtain ⟨vs, rfl, h2⟩ := h
    simpa [V.cells, Value.cells] using h2
  all_goals (refine single rfl h ?_; simpa [V.cells] using hone)

theorem RVs_ofDen : ∀ (e : Ty) (x : e.den) (cs : List Value), rep w g.F e x cs → RVs C w g (ofDen e x) cs
  | .bool, x, cs, h => by simp only [rep] at h; subst h; simp [ofDen, RVs, RV]
  | .int k, n, cs, h => by simp only [rep] at h; obtain ⟨rfl, h1, h2⟩ := h; simp [ofDen, RVs, RV, h1, h2]
  | .str, l, cs, h => by simp only [rep] at h; obtain ⟨rfl, h1⟩ := h; simp [ofDen, RVs, RV, h1]
  | .slice e, xs, cs, h => by
    have hl := rep_len _ _ _ h
    match cs, hl with
    | [v], _ => simp only [ofDen, RVs]; exact ⟨v, [], rfl, by simp only [RV]; exact h, rfl⟩
  | .pair a b, x, cs, h => by
    simp only [rep] at h
    obtain ⟨c1, c2, rfl, h1, h2⟩ := h
    exact RVs_append (RVs_ofDen a x.1 c1 h1) (RVs_ofDen b x.2 c2 h2)
theorem ofDen_len : ∀ (e : Ty) (x : e.den), (ofDen e x).length = e.cells
  | .bool, _ => rfl
  | .int _, _ => rfl
  | .str, _ => rfl
  | .slice _, _ => rfl
  | .pair a b, x => by simp [ofDen, Ty.cells, ofDen_len a x.1, ofDen_len b x.2]
theorem RV_vOfDen : ∀ (b : Ty) (y : b.den) (r : Value), rep w g.F b y r.cells.toList → shape b r → RV C w g (vOfDen b y) r
  | .bool, y, r, h, hs => by
    simp only [rep] at h
    cases r <;> simp [shape, Value.oneCell', Value.cells] at h hs
    subst h; simp [vOfDen, RV]
  | .int k, y, r, h, hs => by
    simp only [rep] at h
    cases r <;> simp [shape, Value.oneCell', Value.cells] at h hs
    obtain ⟨⟨rfl, rfl⟩, h1⟩ := h
    simp only [vOfDen, RV, true_and]; exact h1
  | .str, y, r, h, hs => by
    simp only [rep] at h
    cases r <;> simp [shape, Value.oneCell', Value.cells] at h hs
    obtain ⟨rfl, h1⟩ := h
    simp only [vOfDen, RV, true_and]; exact h1
  | .slice e, y, r, h, hs => by
    simp only [vOfDen, RV]
    have : r.cells.toList = [r] := by cases r <;> simp [shape, Value.oneCell', Value.cells] at hs ⊢
    rwa [this] at h
  | .pair a b, y, r, h, hs => by
    obtain ⟨cs, rfl⟩ := hs
    simp only [vOfDen, RV]
    exact ⟨cs.toList, by simp, RVs_ofDen (.pair a b) y _ h⟩

theorem castO_eq {e e' : Ty} {xs : List (Option e.den)} {ys : List (Option e'.den)} (h : castO e e' xs = some ys) : ∃ he : e = e', he ▸ xs = ys := by
  unfold castO at h
  split at h
  · rename_i he _
    subst he
    exact ⟨rfl, by simpa using h⟩
  · simp at h
theorem castM_eq {k k' e e' : Ty} {l : List (k.den × e.den)} {l' : List (k'.den × e'.den)} (h : castM k k' e e' l = some l') : ∃ (hk : k = k') (he : e = e'), hk ▸ he ▸ l = l' := by
  unfold castM at h
  split at h
  · rename_i hk he _ _
    subst hk; subst he
    exact ⟨rfl, rfl, by simpa using h⟩
  · simp at h
theorem castL_eq {e e' : Ty} {xs : List e.den} {ys : List e'.den} (h : castL e e' xs = some ys) : ∃ he : e = e', he ▸ xs = ys := by
  unfold castL at h
  split at h
  · rename_i he _
    subst he
    exact ⟨rfl, by simpa using h⟩
  · simp at h

end
end Go.Eng

set_option linter.unusedVariables false
set_option linter.unusedSimpArgs false
namespace Go.Eng
open Go.RowKit (Below)
structure RelH (C : Cx) (h : Heap) (w : World) (g : Gh) : Prop where
  keep : ∀ b, C.K b → w.heap[b]? = C.w0.heap[b]?
  size : C.w0.heap.size ≤ w.heap.size
  os : w.os = C.w0.os
  tape : w.tape = C.w0.tape
  output : w.output = C.w0.output
  F : ∀ b, g.F b → b < w.heap.size
  Fin : ∀ b, g.F b → C.F0 b ∨ C.M0 b ∨ C.w0.heap.size ≤ b
  pin : C.Pin g
  lam : (∀ b, C.lK b → C.K b ∧ C.w0.heap[b]? = C.lw.heap[b]?) ∧ C.lw.heap.size ≤ C.w0.heap.size
  obj : ∀ id o, lookN h id = some o → g.U id ∧ RO C w g id o
  sep : ∀ id o id' o' b, lookN h id = some o → lookN h id' = some o' → o.mut = true → o'.mut = true → ablk (g.anch id) = some b → ablk (g.anch id') = some b → id = id'
def RelE (C : Cx) (env : Env) (tmps : Array Value) (w : World) (g : Gh) : Prop :=
  ∀ t v, lookN env t = some v → ∃ x, tmps[t]? = some x ∧ RV C w g v x
def FreshIds (g : Gh) (fresh : Nat) : Prop := ∀ id, fresh ≤ id → id < fresh + 8 → ¬ g.U id

structure QRes (C : Cx) (w : World) (g : Gh) (fresh : Nat) (v : V) (news : Heap) (x : Value) (w' : World) (g' : Gh) : Prop where
  below : Below w.heap.size w w'
  F : ∀ b, g.F b → g'.F b
  Fnew : ∀ b, g'.F b → g.F b ∨ (w.heap.size ≤ b ∧ b < w'.heap.size)
  A : ∀ id, g.U id → g'.U id ∧ g'.anch id = g.anch id
  U : ∀ id, g'.U id → g.U id ∨ (fresh ≤ id ∧ id < fresh + 8)
  val : RV C w' g' v x
  neu : ∀ id o, lookN news id = some o → (fresh ≤ id ∧ id < fresh + 8) ∧ g'.U id ∧ RO C w' g' id o ∧ (∀ b, ablk (g'.anch id) = some b → w.heap.size ≤ b)
  sep : ∀ id o id' o' b, lookN news id = some o → lookN news id' = some o' → o.mut = true → o'.mut = true → ablk (g'.anch id) = some b → ablk (g'.anch id') = some b → id = id'

section
variable {C : Cx} {w w' : World} {g g' : Gh} {h : Heap} {fresh : Nat} {v : V} {news : Heap} {x : Value}
theorem QRes.pure (hv : RV C w g v x) : QRes C w g fresh v [] x w g :=
  ⟨Below.refl _ _, fun _ h => h, fun _ h => .inl h, fun _ h => ⟨h, rfl⟩, fun _ h => .inl h, hv, fun _ _ h => by simp [lookN] at h, fun _ _ _ _ _ h => by simp [lookN] at h⟩
theorem QRes.evo (q : QRes C w g fresh v news x w' g') (hF : ∀ b, g.F b → b < w.heap.size) : Evo w g w' g' :=
  ⟨fun b hb => ⟨q.F b hb, q.below.block b (hF b hb)⟩, q.A⟩

theorem lookN_append {α : Type} : ∀ (a b : List (Nat × α)) (t : Nat), lookN (a ++ b) t = (lookN a t).or (lookN b t)
  | [], b, t => by simp [lookN]
  | (k, v) :: a, b, t => by
    simp only [List.cons_append, lookN]
    cases Nat.beq k t
    · exact lookN_append a b t
    · simp

theorem RO_block {id : Nat} {o : Obj} (ho : RO C w g id o) (hm : o.mut = true) {b : Nat} (hb : ablk (g.anch id) = some b) : b < w.heap.size ∧ MutOk C g b := by
  cases o with
  | box cs =>
    obtain ⟨blk, vs, te, h1, h2, _, _, h5⟩ := ho
    rw [h1] at hb; simp [ablk] at hb; subst hb
    exact ⟨(Array.getElem?_eq_some_iff.1 h2).1, h5⟩
  | arr te e xs =>
    obtain ⟨cells, h1, _, _, h4⟩ := ho
    refine ⟨?_, h4 b hb⟩
    rcases h1.2 with ⟨hv, _⟩ | ⟨g', cap, cur, hv, _, hg, _⟩
    · rw [hv] at hb; simp [ablk] at hb
    · rw [hv] at hb; simp [ablk] at hb; subst hb
      exact (Array.getElem?_eq_some_iff.1 hg).1
  | ice e xs => simp [Obj.mut] at hm
  | map a b' l =>
    obtain ⟨blk, es, clock, h1, h2, _, h5⟩ := ho
    rw [h1] at hb; simp [ablk] at hb; subst hb
    exact ⟨(Array.getElem?_eq_some_iff.1 h2).1, h5.2⟩
  | raw te e xs =>
    obtain ⟨_, ⟨h1, _⟩ | ⟨blk, n, cur, h1, h2, _, _, _, _, h5⟩⟩ := ho
    · rw [h1] at hb; simp [ablk] at hb
    · rw [h1] at hb; simp [ablk] at hb; subst hb
      exact ⟨(Array.getElem?_eq_some_iff.1 h2).1, h5⟩
  | xar te e xs =>
    obtain ⟨⟨cells, h1, _, _, h4⟩, _⟩ := ho
    refine ⟨?_, h4 b hb⟩
    rcases h1.2 with ⟨hv, _⟩ | ⟨g', cap, cur, hv, _, hg, _⟩
    · rw [hv] at hb; simp [ablk] at hb
    · rw [hv] at hb; simp [ablk] at hb; subst hb
      exact (Array.getElem?_eq_some_iff.1 hg).1
  | arx te e rows =>
    obtain ⟨cells, h1, _, _, h4⟩ := ho
    refine ⟨?_, h4 b hb⟩
    rcases h1.2 with ⟨hv, _⟩ | ⟨g', cap, cur, hv, _, hg, _⟩
    · rw [hv] at hb; simp [ablk] at hb
    · rw [hv] at hb; simp [ablk] at hb; subst hb
      exact (Array.getElem?_eq_some_iff.1 hg).1

theorem RO_mono {id : Nat} {o : Obj} (hU : g.U id) (ho : RO C w g id o) (e : Evo w g w' g')
    (hb : ∀ b, o.mut = true → ablk (g.anch id) = some b → w'.heap[b]? = w.heap[b]? ∧ ¬ g'.F b) : RO C w' g' id o := by
  have ha := (e.A id hU).2
  cases o with
  | box cs =>
    obtain ⟨blk, vs, te, h1, h2, h3, h4, h5⟩ := ho
    have hbl := hb blk rfl (by rw [h1]; rfl)
    exact ⟨blk, vs, te, by rw [ha]; exact h1, hbl.1.trans h2, RVs_mono e _ _ h3, h4, h5.1, hbl.2⟩
  | arr te et xs =>
    obtain ⟨cells, h1, h2, h3, h4⟩ := ho
    refine ⟨cells, ?_, reps_mono e.F _ _ _ h2, h3, fun b hbb => ?_⟩
    · rw [ha]
      refine ⟨h1.1, ?_⟩
      rcases h1.2 with hn | ⟨g', cap, cur, hv, hb0, hg, rest⟩
      · exact .inl hn
      · exact .inr ⟨g', cap, cur, hv, hb0, ((hb g' rfl (by rw [hv]; rfl)).1).trans hg, rest⟩
    · rw [ha] at hbb
      exact ⟨(h4 b hbb).1, (hb b rfl hbb).2⟩
  | ice et xs =>
    simp only [RO] at ho ⊢
    rw [ha]
    exact rep_mono e.F _ _ _ ho
  | map a b' l =>
    obtain ⟨blk, es, clock, h1, h2, h3, hst, h5⟩ := ho
    have hbl := hb blk rfl (by rw [h1]; rfl)
    exact ⟨blk, es, clock, by rw [ha]; exact h1, hbl.1.trans h2, mapRep_mono e.F h3, hst, h5.1, hbl.2⟩
  | raw te et xs =>
    obtain ⟨h0, ⟨h1, h2⟩ | ⟨blk, n, cur, h1, h2, h3, h4, h6, h7, h5⟩⟩ := ho
    · exact ⟨h0, .inl ⟨by rw [ha]; exact h1, h2⟩⟩
    · have hbl := hb blk rfl (by rw [h1]; rfl)
      exact ⟨h0, .inr ⟨blk, n, cur, by rw [ha]; exact h1, hbl.1.trans h2, h3, h4, h6, rawRep_mono e.F h7, h5.1, hbl.2⟩⟩
  | xar te et xs =>
    obtain ⟨⟨cells, h1, h2, h3, h4⟩, hx⟩ := ho
    refine ⟨⟨cells, ?_, reps_mono e.F _ _ _ h2, h3, fun b hbb => ?_⟩, by rw [ha]; exact hx⟩
    · rw [ha]
      refine ⟨h1.1, ?_⟩
      rcases h1.2 with hn | ⟨g', cap, cur, hv, hb0, hg, rest⟩
      · exact .inl hn
      · exact .inr ⟨g', cap, cur, hv, hb0, ((hb g' rfl (by rw [hv]; rfl)).1).trans hg, rest⟩
    · rw [ha] at hbb
      exact ⟨(h4 b hbb).1, (hb b rfl hbb).2⟩
  | arx te et rows =>
    obtain ⟨cells, h1, h2, h3, h4⟩ := ho
    refine ⟨cells, ?_, reps_mono e.F _ _ _ h2, h3, fun b hbb => ?_⟩
    · rw [ha]
      refine ⟨h1.1, ?_⟩
      rcases h1.2 with hn | ⟨g', cap, cur, hv, hb0, hg, rest⟩
      · exact .inl hn
      · exact .inr ⟨g', cap, cur, hv, hb0, ((hb g' rfl (by rw [hv]; rfl)).1).trans hg, rest⟩
    · rw [ha] at hbb
      exact ⟨(h4 b hbb).1, (hb b rfl hbb).2⟩

theorem RelH.quiet (R : RelH C h w g) (q : QRes C w g fresh v news x w' g') : RelH C (news ++ h) w' g' := by
  have e := q.evo R.F
  have old : ∀ id o, lookN news id = none → lookN h id = some o → g'.U id ∧ RO C w' g' id o := fun id o _ ho => by
    obtain ⟨hU, hO⟩ := R.obj id o ho
    refine ⟨(q.A id hU).1, RO_mono hU hO e fun b hm hb => ?_⟩
    obtain ⟨hlt, hmo⟩ := RO_block hO hm hb
    refine ⟨q.below.block b hlt, fun hF => ?_⟩
    rcases q.Fnew b hF with h1 | h1
    · exact hmo.2 h1
    · omega
  have split : ∀ id o, lookN (news ++ h) id = some o → lookN news id = some o ∨ (lookN news id = none ∧ lookN h id = some o) := fun id o ho => by
    rw [lookN_append] at ho
    cases hn : lookN news id with
    | none => rw [hn] at ho; simp at ho; exact .inr ⟨rfl, ho⟩
    | some o' => rw [hn] at ho; simp at ho; subst ho; exact .inl rfl
  have oldblk : ∀ id o b, lookN h id = some o → o.mut = true → ablk (g'.anch id) = some b → b < w.heap.size ∧ ablk (g.anch id) = some b := fun id o b ho hm hb => by
    obtain ⟨hU, hO⟩ := R.obj id o ho
    rw [(q.A id hU).2] at hb
    exact ⟨(RO_block hO hm hb).1, hb⟩
  refine ⟨fun b hb => ?_, Nat.le_trans R.size q.below.size, q.below.os.trans R.os, q.below.tape.trans R.tape, q.below.output.trans R.output, fun b hb => ?_, fun b hb => (q.Fnew b hb).elim (R.Fin b) (fun h1 => .inr (.inr (Nat.le_trans R.size h1.1))), e.pin R.pin, R.lam, fun id o ho => ?_, ?_⟩
  · have : b < w.heap.size := Nat.lt_of_lt_of_le hb.1 R.size
    exact (q.below.block b this).trans (R.keep b hb)
  · rcases q.Fnew b hb with h1 | h1
    · exact Nat.lt_of_lt_of_le (R.F b h1) q.below.size
    · exact h1.2
  · rcases split id o ho with hn | ⟨hn, ho⟩
    · exact ⟨(q.neu id o hn).2.1, (q.neu id o hn).2.2.1⟩
    · exact old id o hn ho
  · intro id o id' o' b ho ho' hm hm' hb hb'
    rcases split id o ho with hn | ⟨hn, ho⟩ <;> rcases split id' o' ho' with hn' | ⟨hn', ho'⟩
    · exact q.sep id o id' o' b hn hn' hm hm' hb hb'
    · have h1 := (q.neu id o hn).2.2.2 b hb
      have h2 := (oldblk id' o' b ho' hm' hb').1
      omega
    · have h1 := (q.neu id' o' hn').2.2.2 b hb'
      have h2 := (oldblk id o b ho hm hb).1
      omega
    · exact R.sep id o id' o' b ho ho' hm hm' (oldblk id o b ho hm hb).2 (oldblk id' o' b ho' hm' hb').2

theorem RelE.mono {env : Env} {tmps : Array Value} (R : RelE C env tmps w g) (e : Evo w g w' g') : RelE C env tmps w' g' :=
  fun t v h => let ⟨x, h1, h2⟩ := R t v h; ⟨x, h1, RV_mono e v x h2⟩
def putEnv (env : Env) (dst : Option Tmp) (v : V) : Env :=
  match dst with
  | some d => (d, v) :: env
  | none => env
theorem RelE.put {env : Env} {a : Act} (R : RelE C env a.tmps w g) {dst : Option Tmp} {v : V} {x : Value} (hv : RV C w g v x) (hd : ∀ d, dst = some d → d < a.tmps.size) :
    RelE C (putEnv env dst v) (a.put dst x).tmps w g := by
  cases dst with
  | none => exact R
  | some d =>
    intro t u ht
    simp only [putEnv, lookN] at ht
    simp only [Act.put]
    cases hb : Nat.beq d t
    · simp only [hb] at ht
      obtain ⟨y, h1, h2⟩ := R t u ht
      refine ⟨y, ?_, h2⟩
      have hne : d ≠ t := fun e => by subst e; simp at hb
      rw [Array.getElem?_setIfInBounds_ne hne]
      exact h1
    · simp only [hb, Option.some.injEq] at ht
      subst ht
      have : d = t := Nat.eq_of_beq_eq_true hb
      subst this
      exact ⟨x, by rw [Array.getElem?_setIfInBounds_self_of_lt (hd d rfl)], hv⟩

theorem constV_rel (x : Value) : RV C w g (constV x) x := by
  unfold constV
  split
  · simp [RV]
  · rename_i k n
    cases hk : inK k n
    · simp [RV]
    · have := (inK_iff k n).1 hk
      simp [RV, this.1, this.2]
  · rename_i l
    cases hl : Nat.ble l.length 100000
    · simp [RV]
    · have := Nat.le_of_ble_eq_true hl
      simp only [RV, true_and]
      simp only [maxLen]; omega
  · simp [RV]
  · simp [RV]
  · simp [RV]
  · simp [RV]
  · simp [RV]
theorem rd_rel {env : Env} {a : Act} (R : RelE C env a.tmps w g) (x : Operand) : RV C w g (rd env x) (a.eval x) := by
  cases x with
  | tmp t =>
    simp only [rd, Act.eval]
    cases hl : lookN env t with
    | none => simp [RV]
    | some v =>
      obtain ⟨y, h1, h2⟩ := R t v hl
      have : a.tmps.getD t undef = y := by simp [Array.getD_eq_getD_getElem?, h1]
      rw [this]
      exact h2
  | const c => exact constV_rel c
  | global n => simp [rd, RV]
  | func f => simp only [rd, RV]; exact ⟨[], rfl, by simp [RVs]⟩
theorem rds_rel {env : Env} {a : Act} (R : RelE C env a.tmps w g) : ∀ (xs : List Operand), RVs C w g (xs.map (rd env)) (xs.map a.eval)
  | [] => by simp [RVs]
  | x :: xs => by simp only [List.map_cons, RVs]; exact ⟨_, _, rfl, rd_rel R x, rds_rel R xs⟩

theorem ti_of {P : Program} {T : Tab} (hT : TabOk P T) {t : TypeId} {i : TI} (hi : T.ti t = some i) :
    ∃ inf u z, P.info? t = some inf ∧ P.underlying t = some u ∧ inf.zero = some z ∧ tdOf u = i.d ∧ inf.size = i.size ∧ inf.bytes = i.bytes ∧ z.cells.toList.map zcOf = i.zero ∧ rowOf P 8 t = i.row ∧ eqOf P t u = i.eq := by
  have h := hT t i hi
  unfold tiOf at h
  split at h
  · rename_i inf u h1 h2
    split at h
    · rename_i z hz
      simp only [Option.some.injEq] at h
      subst h
      exact ⟨inf, u, z, h1, h2, hz, rfl, rfl, rfl, rfl, rfl, rfl⟩
    · simp at h
  · simp at h
theorem und_slice {u : TypeDesc} {e : TypeId} (h : tdOf u = .slice e) : u = .slice e := by
  cases u <;> simp [tdOf] at h; subst h; rfl
theorem und_str {u : TypeDesc} (h : tdOf u = .str) : u = .string := by
  cases u <;> simp [tdOf] at h; rfl
theorem und_int {u : TypeDesc} {k : IntKind} (h : tdOf u = .int k) : u = .int k := by
  cases u <;> simp [tdOf] at h; subst h; rfl
theorem und_ptr {u : TypeDesc} {e : TypeId} (h : tdOf u = .ptr e) : u = .pointer e := by
  cases u <;> simp [tdOf] at h; subst h; rfl
theorem und_bool {u : TypeDesc} (h : tdOf u = .bool) : u = .bool := by
  cases u <;> simp [tdOf] at h; rfl
theorem und_arr {u : TypeDesc} {n : Nat} {e : TypeId} (h : tdOf u = .arr n e) : u = .array n e := by
  cases u <;> simp [tdOf] at h; obtain ⟨rfl, rfl⟩ := h; rfl
theorem und_struct {u : TypeDesc} {fs : List (TypeId × Nat)} (h : tdOf u = .struct fs) : ∃ gs : Array Field, u = .struct gs ∧ gs.toList.map (fun f => (f.type, f.offset)) = fs := by
  cases u <;> simp [tdOf] at h; exact ⟨_, rfl, h⟩
theorem run_isAgg {P : Program} {t : TypeId} {u : TypeDesc} (hu : P.underlying t = some u) (w : World) : (isAgg t).run P w = .ok (isAggD (tdOf u)) w := by
  unfold isAgg
  cases u <;> simp [run_underlying hu, tdOf, isAggD]

theorem run_loadVar_cells {P : Program} {T : Tab} (hT : TabOk P T) {t : TypeId} {i : TI} (hi : T.ti t = some i) {a0 : Addr} {cs : List V} {vs : List Value}
    (hv : RVs C w g cs vs) (hc : ∀ (j : Nat) (x : Value), vs[j]? = some x → w.cell? (a0.add j) = some x) (hl : cs.length = i.size) {v : V} (hm : mkV i.d cs = some v) :
    ∃ val, (loadVar t a0).run P w = .ok val w ∧ RV C w g v val := by
  obtain ⟨inf, u, z, h1, h2, _, h4, h5, _⟩ := ti_of hT hi
  have hvl : vs.length = i.size := (RVs_len hv).trans hl
  unfold mkV at hm
  cases ha : isAggD i.d
  · simp only [ha] at hm
    split at hm
    · rename_i c
      simp only [Option.some.injEq] at hm
      subst hm
      simp only [RVs] at hv
      obtain ⟨y, _, rfl, hy, rfl⟩ := hv
      refine ⟨y, ?_, hy⟩
      have h0 := hc 0 y rfl
      have hadd : a0.add 0 = a0 := by simp [Addr.add]
      rw [hadd] at h0
      simp [loadVar, run_isAgg h2, h4, ha, h0]
    · simp at hm
  · simp only [ha, Option.some.injEq] at hm
    subst hm
    refine ⟨.agg vs.toArray, ?_, by simp only [RV]; exact ⟨vs, rfl, hv⟩⟩
    have hr := run_loadCells_list (P := P) w a0 vs hc
    rw [hvl] at hr
    simp [loadVar, run_isAgg h2, h4, ha, sizeOf, typeInfo, h1, h5, hr]

theorem addr_add (b o n : Nat) : (⟨b, o, none⟩ : Addr).add n = ⟨b, o + n, none⟩ := by unfold Addr.add; split <;> simp_all

theorem mkR_some {c c' : List Prop} {d : TD} {cs : List V} {v : V} {news : Heap} (h : mkR c d cs = some (c', v, news)) : mkV d cs = some v ∧ c' = c ∧ news = [] := by
  unfold mkR at h
  split at h
  · rename_i v' hv
    simp only [Option.some.injEq, Prod.mk.injEq] at h
    obtain ⟨rfl, rfl, rfl⟩ := h
    exact ⟨hv, rfl, rfl⟩
  · simp at h

theorem arr_cells {id : Nat} {te : TypeId} {e : Ty} {xs : List e.den} (ho : RO C w g id (.arr te e xs)) :
    ∃ cells, reps w g.F e xs cells ∧ cells.length = xs.length * e.cells ∧ ∀ a n c, g.anch id = .slice (some a) n c → ∀ (j : Nat) (x : Value), cells[j]? = some x → w.cell? (a.add j) = some x := by
  obtain ⟨cells, h1, h2, _, _⟩ := ho
  refine ⟨cells, h2, h1.1, fun a n c ha j x hx => ?_⟩
  have hb : (g.anch id).ownBlock = some a.block := by rw [ha]; rfl
  have := h1.cells hb j x hx
  rcases h1.2 with ⟨hv, _⟩ | ⟨g', cap, cur, hv, _⟩
  · rw [ha] at hv; simp at hv
  · rw [ha] at hv; simp at hv
    obtain ⟨rfl, _, _⟩ := hv
    exact this

theorem getD_get {α : Type} (xs : List α) (i : Nat) (d : α) (h : i < xs.length) : xs.getD i d = xs[i] := by
  simp [List.getD, List.getElem?_eq_getElem h]

theorem loadV_sound {P : Program} {T : Tab} (hT : TabOk P T) (R : RelH C h w g) {t : TypeId} {a v : V} {x : Value} {c : List Prop} {news : Heap}
    (hs : loadV T t a h = some (c, v, news)) (hc : ∀ p ∈ c, p) (ha : RV C w g a x) :
    news = [] ∧ ∃ val, (Instr.loadAt t x).run P w = .ok val w ∧ RV C w g v val := by
  unfold loadV at hs
  cases hi : T.ti t with
  | none => simp [hi] at hs
  | some i =>
    simp only [hi] at hs
    cases a <;> simp only at hs
    all_goals try (simp at hs; done)
    case ptr id col =>
      simp only [RV] at ha
      obtain ⟨hU, ad, h1, rfl⟩ := ha
      cases ho : lookN h id with
      | none => simp [ho] at hs
      | some o =>
        cases o <;> simp only [ho] at hs
        all_goals try (simp at hs; done)
        rename_i cs
        obtain ⟨_, blk, vs, te, h2, h3, h4, _, _⟩ := R.obj id _ ho
        rw [h1] at h2
        simp at h2
        subst h2
        cases hb : Nat.ble (col + i.size) cs.length
        · simp [hb] at hs
        · simp only [hb] at hs
          have hle := Nat.le_of_ble_eq_true hb
          obtain ⟨hm, rfl, rfl⟩ := mkR_some hs
          refine ⟨rfl, ?_⟩
          have hvs := RVs_take i.size (RVs_drop col h4)
          obtain ⟨val, hr, hv⟩ := run_loadVar_cells hT hi (a0 := (⟨blk, 0, none⟩ : Addr).add col) hvs (fun j y hy => by
            rw [add_add, addr_add]
            rw [cell_of_row w blk _ _ _ _ h3]
            have hj : j < i.size := by
              have hlt := (List.getElem?_eq_some_iff.1 hy).1
              simp at hlt; omega
            rw [List.getElem?_take_of_lt hj, List.getElem?_drop] at hy
            simpa using hy) (by simp; omega) hm
          exact ⟨val, by simp [Instr.loadAt, Instr.sureAddr, hr], hv⟩
    case rp cs =>
      simp only [RV] at ha
      obtain ⟨ad, vs, rfl, hF, hcell, h4⟩ := ha
      cases hb : Nat.ble i.size cs.length
      · simp [hb] at hs
      · simp only [hb] at hs
        have hle := Nat.le_of_ble_eq_true hb
        obtain ⟨hm, rfl, rfl⟩ := mkR_some hs
        refine ⟨rfl, ?_⟩
        obtain ⟨val, hr, hv⟩ := run_loadVar_cells hT hi (a0 := ad) (RVs_take i.size h4) (fun j y hy => by
          have hj : j < i.size := by
            have hlt := (List.getElem?_eq_some_iff.1 hy).1
            simp at hlt; omega
          rw [List.getElem?_take_of_lt hj] at hy
          exact hcell j y hy) (by simp; omega) hm
        exact ⟨val, by simp [Instr.loadAt, Instr.sureAddr, hr], hv⟩
    case ep id e row col =>
      simp only [RV] at ha
      obtain ⟨hU, ad, n, cp, h1, rfl⟩ := ha
      cases ho : lookN h id with
      | none => simp [ho] at hs
      | some o =>
        cases o <;> simp only [ho] at hs
        all_goals try (simp at hs; done)
        rename_i te e' xs'
        cases hcast : castL e' e xs' with
        | none => simp [hcast] at hs
        | some xs =>
          simp only [hcast] at hs
          obtain ⟨rfl, hxs⟩ := castL_eq hcast
          simp at hxs
          subst hxs
          cases hb : Nat.ble (col + i.size) e'.cells
          · simp [hb] at hs
          · simp only [hb] at hs
            have hle := Nat.le_of_ble_eq_true hb
            obtain ⟨hm, rfl, rfl⟩ := mkR_some hs
            have hrow : row < xs'.length := hc _ (by simp)
            refine ⟨rfl, ?_⟩
            obtain ⟨cells, hreps, hlen, hcell⟩ := arr_cells (R.obj id _ ho).2
            obtain ⟨ci, hrep, htk⟩ := reps_at e' xs' cells hreps row hrow
            rw [getD_get _ _ _ hrow] at hm
            have hvs := RVs_take i.size (RVs_drop col (RVs_ofDen (C := C) e' _ ci hrep))
            obtain ⟨val, hr, hv⟩ := run_loadVar_cells hT hi (a0 := ad.add (row * e'.cells + col)) hvs (fun j y hy => by
              have hj : j < i.size := by
                have hlt := (List.getElem?_eq_some_iff.1 hy).1
                simp at hlt; omega
              rw [List.getElem?_take_of_lt hj, List.getElem?_drop, ← htk, List.getElem?_take_of_lt (by omega), List.getElem?_drop] at hy
              rw [add_add]
              refine hcell ad n cp h1 _ y ?_
              rw [← hy]
              congr 1
              omega) (by simp [ofDen_len]; omega) hm
            exact ⟨val, by simp [Instr.loadAt, Instr.sureAddr, hr], hv⟩
end
end Go.Eng

set_option linter.unusedVariables false
set_option linter.unusedSimpArgs false
namespace Go.Eng
open Go.RowKit (Below)
section
variable {C : Cx} {w w' : World} {g g' : Gh} {h : Heap}
theorem rows_of {F : Nat → Prop} {e : Ty} {A : Option Addr} : ∀ (xs : List e.den) (k : Nat),
    (∀ i (hi : i < xs.length), ∃ a ci, A = some a ∧ F a.block ∧ (∀ (j : Nat) (v : Value), ci[j]? = some v → w.cell? (a.add ((k + i) * e.cells + j)) = some v) ∧ rep w F e xs[i] ci) →
    ∃ cells, reps w F e xs cells ∧ (∀ ad, A = some ad → ∀ (j : Nat) (u : Value), cells[j]? = some u → w.cell? (ad.add (k * e.cells + j)) = some u)
  | [], k, _ => ⟨[], rfl, fun _ _ _ _ h => by simp at h⟩
  | x :: xs, k, hx => by
    obtain ⟨a, c0, hA, _, hc0, hr0⟩ := hx 0 (by simp)
    obtain ⟨cells, h1, h2⟩ := rows_of xs (k + 1) (fun i hi => by
      obtain ⟨a, ci, h1, h2, h3, h4⟩ := hx (i + 1) (by simpa using hi)
      exact ⟨a, ci, h1, h2, fun j v hv => by rw [← h3 j v hv]; congr 2; rw [Nat.add_assoc, Nat.add_comm 1 i], by simpa using h4⟩)
    refine ⟨c0 ++ cells, ⟨c0, cells, rfl, by simpa using hr0, h1⟩, fun ad hadA j u hu => ?_⟩
    have hlen := rep_len e _ c0 hr0
    rw [hA] at hadA
    simp at hadA
    subst hadA
    by_cases hj : j < c0.length
    · rw [List.getElem?_append_left hj] at hu
      simpa using hc0 j u hu
    · rw [List.getElem?_append_right (by omega)] at hu
      have := h2 a hA _ u hu
      rw [← this]
      congr 2
      rw [Nat.add_mul]
      omega
theorem rep_of_rows {F : Nat → Prop} {e : Ty} {a : Addr} {cap : Nat} {xs : List e.den} {cells : List Value} (hr : reps w F e xs cells) (hF : F a.block) (hc : xs.length ≤ cap) (hm : cap ≤ maxLen)
    (hcell : ∀ (j : Nat) (u : Value), cells[j]? = some u → w.cell? (a.add j) = some u) : rep w F (.slice e) xs [.slice (some a) xs.length cap] := by
  simp only [rep]
  refine ⟨some a, cap, rfl, hc, hm, by simp, fun i hi => ?_⟩
  obtain ⟨ci, hrep, htk⟩ := reps_at e xs cells hr i hi
  refine ⟨a, ci, rfl, hF, fun j v hv => ?_, hrep⟩
  have hl := rep_len e _ ci hrep
  have hj : j < e.cells := by have := (List.getElem?_eq_some_iff.1 hv).1; omega
  rw [← htk, List.getElem?_take_of_lt hj, List.getElem?_drop] at hv
  exact hcell _ v hv

structure View (w : World) (F : Nat → Prop) (e : Ty) (xs : List e.den) (x : Value) (A : Option Addr) (cap : Nat) (cells : List Value) : Prop where
  val : x = .slice A xs.length cap
  rows : reps w F e xs cells
  le : xs.length ≤ cap
  max : cap ≤ maxLen
  nil : A = none → cap = 0
  cell : ∀ ad, A = some ad → ∀ (j : Nat) (u : Value), cells[j]? = some u → w.cell? (ad.add j) = some u
  blk : ∀ ad, A = some ad → xs ≠ [] → ad.block < w.heap.size

theorem view_of_rep (hF : ∀ b, g.F b → b < w.heap.size) {e : Ty} {xs : List e.den} {x : Value} (hr : rep w g.F (.slice e) xs [x]) : ∃ A cap cells, View w g.F e xs x A cap cells ∧ (∀ ad, A = some ad → xs ≠ [] → g.F ad.block) := by
  simp only [rep] at hr
  obtain ⟨A, cap, h1, h2, h3, h4, h5⟩ := hr
  obtain ⟨cells, h6, h7⟩ := rows_of (w := w) (F := g.F) (e := e) (A := A) xs 0 (fun i hi => by
    obtain ⟨a, ci, q1, q2, q3, q4⟩ := h5 i hi
    exact ⟨a, ci, q1, q2, fun j v hv => by rw [Nat.zero_add]; exact q3 j v hv, q4⟩)
  have hFb : ∀ ad, A = some ad → xs ≠ [] → g.F ad.block := fun ad hA hne => by
    obtain ⟨a, _, q1, q2, _⟩ := h5 0 (by cases xs; exact absurd rfl hne; simp)
    rw [hA] at q1; simp at q1; subst q1; exact q2
  exact ⟨A, cap, cells, ⟨by simpa using h1, h6, h2, h3, h4, fun ad hA j u hu => by simpa using h7 ad hA j u hu, fun ad hA hne => hF _ (hFb ad hA hne)⟩, hFb⟩

theorem view_of_arr {id : Nat} {te : TypeId} {e : Ty} {xs : List e.den} (ho : RO C w g id (.arr te e xs)) :
    ∃ A cap cells, View w g.F e xs (g.anch id) A cap cells := by
  obtain ⟨cells, h1, h2, h3, h4⟩ := ho
  rcases h1.2 with ⟨hv, hn⟩ | ⟨g', cap, cur, hv, _, hg, hnc, hm, hcs, htk⟩
  · have : xs = [] := List.eq_nil_of_length_eq_zero hn
    subst this
    simp only [reps] at h2
    subst h2
    exact ⟨none, 0, [], ⟨hv, rfl, by simp, by simp, fun _ => rfl, fun _ h => by simp at h, fun _ h => by simp at h⟩⟩
  · refine ⟨some ⟨g', 0, none⟩, cap, cells, ⟨hv, h2, hnc, hm, by simp, fun ad hA j u hu => ?_, fun ad hA _ => ?_⟩⟩
    · simp at hA; subst hA
      exact h1.cells (g := g') (by rw [hv]; rfl) j u hu
    · simp at hA; subst hA
      exact (Array.getElem?_eq_some_iff.1 hg).1

theorem viewL_sound (R : RelH C h w g) {own : Bool} {e : Ty} {v : V} {xs : List e.den} {x : Value} (hs : viewL h own e v = some xs) (hv : RV C w g v x) :
    ∃ A cap cells, View w g.F e xs x A cap cells ∧ (own = false → ∀ ad, A = some ad → xs ≠ [] → g.F ad.block) := by
  unfold viewL at hs
  cases v <;> simp only at hs
  all_goals try (simp at hs; done)
  case sl e' ys =>
    obtain ⟨rfl, hxs⟩ := castL_eq hs
    simp at hxs
    subst hxs
    simp only [RV] at hv
    obtain ⟨A, cap, cells, q1, q2⟩ := view_of_rep R.F hv
    exact ⟨A, cap, cells, q1, fun _ => q2⟩
  case os e' f ys =>
    obtain ⟨rfl, hxs⟩ := castL_eq hs
    simp at hxs
    subst hxs
    simp only [RV] at hv
    obtain ⟨A, cap, cells, q1, q2⟩ := view_of_rep R.F hv.1
    exact ⟨A, cap, cells, q1, fun _ => q2⟩
  case nil =>
    simp only [Option.some.injEq] at hs
    subst hs
    simp only [RV] at hv
    exact ⟨none, 0, [], ⟨hv, rfl, by simp, by simp, fun _ => rfl, fun _ h => by simp at h, fun _ h => by simp at h⟩, fun _ _ h => by simp at h⟩
  case own id =>
    simp only [RV] at hv
    obtain ⟨hU, rfl, _⟩ := hv
    cases ho : lookN h id with
    | none => simp [ho] at hs
    | some o =>
      cases o <;> simp only [ho] at hs
      all_goals try (simp at hs; done)
      case arr te e' ys =>
        cases own
        · simp at hs
        · simp only at hs
          obtain ⟨rfl, hxs⟩ := castL_eq hs
          simp at hxs
          subst hxs
          obtain ⟨A, cap, cells, q1⟩ := view_of_arr (R.obj id _ ho).2
          exact ⟨A, cap, cells, q1, fun h => by simp at h⟩
      case ice e' ys =>
        obtain ⟨rfl, hxs⟩ := castL_eq hs
        simp at hxs
        subst hxs
        have := (R.obj id _ ho).2
        simp only [RO] at this
        obtain ⟨A, cap, cells, q1, q2⟩ := view_of_rep R.F this
        exact ⟨A, cap, cells, q1, fun _ => q2⟩

def Fown (w : World) (g : Gh) (own : Bool) (b : Nat) : Prop := g.F b ∨ (own = true ∧ b < w.heap.size)
theorem Fown_of {own : Bool} : ∀ b, g.F b → Fown w g own b ∧ w.heap[b]? = w.heap[b]? := fun _ h => ⟨.inl h, rfl⟩

theorem View.rep {own : Bool} {e : Ty} {xs : List e.den} {x : Value} {A : Option Addr} {cap : Nat} {cells : List Value} (q : View w g.F e xs x A cap cells)
    (hb : own = false → ∀ ad, A = some ad → xs ≠ [] → g.F ad.block) : Eng.rep w (Fown w g own) (.slice e) xs [x] := by
  obtain ⟨rfl, h2, h3, h4, h5, h6, h7⟩ := q
  cases A with
  | none =>
    have hc := h5 rfl
    subst hc
    have : xs = [] := List.eq_nil_of_length_eq_zero (by omega)
    subst this
    simp only [Eng.rep]
    exact ⟨none, 0, rfl, by simp, by simp, fun _ => rfl, fun i hi => by simp at hi⟩
  | some ad =>
    by_cases hne : xs = []
    · subst hne
      simp only [Eng.rep]
      exact ⟨some ad, cap, rfl, by simp, h4, by simp, fun i hi => by simp at hi⟩
    · refine rep_of_rows (reps_mono Fown_of e xs cells h2) ?_ h3 h4 (h6 ad rfl)
      cases own
      · exact .inl (hb rfl ad rfl hne)
      · exact .inr ⟨rfl, h7 ad rfl hne⟩

theorem toDen_sound (R : RelH C h w g) {own : Bool} : ∀ (e : Ty) (cs : List V) (x : e.den) (r : List V) (vs : List Value), toDen h own e cs = some (x, r) → RVs C w g cs vs →
    ∃ us ts, vs = us ++ ts ∧ rep w (Fown w g own) e x us ∧ RVs C w g r ts
  | .bool, cs, x, r, vs, hs, hv => by
    cases cs with
    | nil => simp [toDen] at hs
    | cons c cs =>
      simp only [RVs] at hv
      obtain ⟨y, ys, rfl, h1, h2⟩ := hv
      cases c <;> simp [toDen] at hs
      all_goals
        obtain ⟨rfl, rfl⟩ := hs
        simp only [RV] at h1
        subst h1
        exact ⟨[_], ys, rfl, by simp [rep], h2⟩
  | .int k, cs, x, r, vs, hs, hv => by
    cases cs with
    | nil => simp [toDen] at hs
    | cons c cs =>
      simp only [RVs] at hv
      obtain ⟨y, ys, rfl, h1, h2⟩ := hv
      cases c <;> simp [toDen] at hs
      obtain ⟨rfl, rfl, rfl⟩ := hs
      simp only [RV] at h1
      obtain ⟨rfl, h3, h4⟩ := h1
      exact ⟨[_], ys, rfl, by simp [rep, h3, h4], h2⟩
  | .str, cs, x, r, vs, hs, hv => by
    cases cs with
    | nil => simp [toDen] at hs
    | cons c cs =>
      simp only [RVs] at hv
      obtain ⟨y, ys, rfl, h1, h2⟩ := hv
      cases c <;> simp [toDen] at hs
      obtain ⟨rfl, rfl⟩ := hs
      simp only [RV] at h1
      obtain ⟨rfl, h3⟩ := h1
      exact ⟨[_], ys, rfl, by simp [rep, h3], h2⟩
  | .slice e, cs, x, r, vs, hs, hv => by
    cases cs with
    | nil => simp [toDen] at hs
    | cons c cs =>
      simp only [RVs] at hv
      obtain ⟨y, ys, rfl, h1, h2⟩ := hv
      simp only [toDen] at hs
      cases hw : viewL h own e c with
      | none => simp [hw] at hs
      | some xs =>
        simp only [hw, Option.some.injEq, Prod.mk.injEq] at hs
        obtain ⟨rfl, rfl⟩ := hs
        obtain ⟨A, cap, cells, q1, q2⟩ := viewL_sound R hw h1
        exact ⟨[y], ys, rfl, q1.rep q2, h2⟩
  | .pair a b, cs, x, r, vs, hs, hv => by
    simp only [toDen] at hs
    cases ha : toDen h own a cs with
    | none => simp [ha] at hs
    | some p =>
      obtain ⟨x1, r1⟩ := p
      simp only [ha] at hs
      cases hb : toDen h own b r1 with
      | none => simp [hb] at hs
      | some p2 =>
        obtain ⟨x2, r2⟩ := p2
        simp only [hb, Option.some.injEq, Prod.mk.injEq] at hs
        obtain ⟨rfl, rfl⟩ := hs
        obtain ⟨us, ts, rfl, h1, h2⟩ := toDen_sound R a cs x1 r1 vs ha hv
        obtain ⟨us2, ts2, rfl, h3, h4⟩ := toDen_sound R b r1 x2 r2 ts hb h2
        exact ⟨us ++ us2, ts2, by rw [List.append_assoc], by simp only [rep]; exact ⟨us, us2, rfl, h1, h3⟩, h4⟩
theorem toDen_all (R : RelH C h w g) {e : Ty} {cs : List V} {x : e.den} {vs : List Value} (hs : toDen h false e cs = some (x, [])) (hv : RVs C w g cs vs) : rep w g.F e x vs := by
  obtain ⟨us, ts, rfl, h1, h2⟩ := toDen_sound R e cs x [] vs hs hv
  simp only [RVs] at h2
  subst h2
  rw [List.append_nil]
  exact rep_mono (fun b hb => ⟨by simpa [Fown] using hb, rfl⟩) e x us h1

theorem wrap_len {n : Nat} (h : n ≤ maxLen) : IntKind.i64.min ≤ (n : Int) ∧ (n : Int) ≤ IntKind.i64.max := by
  simp only [maxLen] at h
  simp [IntKind.min, IntKind.max, IntKind.signed, IntKind.bits]; omega

theorem elem_of {P : Program} {T : Tab} (hT : TabOk P T) {t te : TypeId} {e : Ty} {bytes : Nat} {zero : List ZC} (h : elemT T t = some (te, e, bytes, zero)) :
    ∃ inf z, P.underlying t = some (.slice te) ∧ P.info? te = some inf ∧ inf.size = e.cells ∧ inf.bytes = bytes ∧ inf.zero = some z ∧ z.cells.toList.map zcOf = zero ∧ 0 < e.cells ∧ z.cells.size = e.cells ∧ rowOf P 8 te = some e := by
  unfold elemT at h
  cases hti : T.ti t with
  | none => simp [hti] at h
  | some i =>
    obtain ⟨d, size, bytes', zero', row, eqk⟩ := i
    obtain ⟨inf, u, z, g1, g2, g3, g4, g5⟩ := ti_of hT hti
    cases d <;> simp only [hti] at h
    all_goals try (simp at h; done)
    case slice te' =>
    obtain rfl := und_slice g4
    cases hte : T.ti te' with
    | none => simp [hte] at h
    | some ie =>
      obtain ⟨d2, size2, bytes2, zero2, row2, eq2⟩ := ie
      obtain ⟨inf2, u2, z2, k1, k2, k3, k4, k5, k6, k7, k8, k9⟩ := ti_of hT hte
      cases row2 with
      | none => simp [hte] at h
      | some e' =>
        simp only [hte] at h
        cases hb : (Nat.beq size2 e'.cells && Nat.blt 0 size2 && Nat.beq zero2.length size2)
        · simp [hb] at h
        · simp only [hb, Option.some.injEq, Prod.mk.injEq] at h
          obtain ⟨rfl, rfl, rfl, rfl⟩ := h
          simp only [Bool.and_eq_true] at hb
          have e1 := Nat.eq_of_beq_eq_true hb.1.1
          have e2 : 0 < size2 := by have := hb.1.2; simp [Nat.blt] at this; omega
          have e3 := Nat.eq_of_beq_eq_true hb.2
          refine ⟨inf2, z2, g2, k1, k5.trans e1, k6, k3, k7, by omega, ?_, k8⟩
          have k7' : z2.cells.toList.map zcOf = zero2 := k7
          have : z2.cells.toList.length = zero2.length := by rw [← k7']; simp
          simp only [Array.length_toList] at this
          omega
theorem isSliceD_of {u : TypeDesc} (h : isSliceD (tdOf u) = true) : ∃ e, u = .slice e := by
  cases u <;> simp [tdOf, isSliceD] at h; exact ⟨_, rfl⟩

theorem lenV_sound {P : Program} {T : Tab} (hT : TabOk P T) (R : RelH C h w g) {t : TypeId} {v r : V} {x : Value} {c : List Prop} {news : Heap} (hs : lenV T t v h = some (c, r, news)) (hv : RV C w g v x) {ty : TypeId} :
    news = [] ∧ ∃ val, (Builtin.len_ #[t] ty #[x]).run P w = .ok val w ∧ RV C w g r val := by
  unfold lenV at hs
  cases hti : T.ti t with
  | none => simp [hti] at hs
  | some i =>
    simp only [hti] at hs
    obtain ⟨inf, u, z, g1, g2, g3, g4, g5⟩ := ti_of hT hti
    have sl : ∀ (n : Nat) (A : Option Addr) (cap : Nat), isSliceD i.d = true → x = .slice A n cap → n ≤ maxLen → ∃ val, (Builtin.len_ #[t] ty #[x]).run P w = .ok val w ∧ RV C w g (.i .i64 (n : Int)) val := by
      intro n A cap hd hx hn
      rw [← g4] at hd
      obtain ⟨e, rfl⟩ := isSliceD_of hd
      subst hx
      exact ⟨.int .i64 (n : Int), by simp [Builtin.len_, run_underlying g2, goInt], by simp only [RV, true_and]; exact wrap_len hn⟩
    cases v <;> simp only at hs
    all_goals try (simp at hs; done)
    case s l =>
      cases hd : i.d <;> simp only [hd] at hs
      all_goals try (simp at hs; done)
      simp only [Option.some.injEq, Prod.mk.injEq] at hs
      obtain ⟨rfl, rfl, rfl⟩ := hs
      simp only [RV] at hv
      obtain ⟨rfl, hl⟩ := hv
      rw [hd] at g4
      obtain rfl := und_str g4
      refine ⟨rfl, .int .i64 (l.length : Int), ?_, by simp only [RV, true_and]; exact wrap_len hl⟩
      simp only [Builtin.len_]
      simp [run_underlying g2, goInt]
      rfl
    case sl e xs =>
      cases hd : isSliceD i.d <;> simp only [hd] at hs
      · simp at hs
      simp only [Option.some.injEq, Prod.mk.injEq] at hs
      obtain ⟨rfl, rfl, rfl⟩ := hs
      simp only [RV] at hv
      obtain ⟨A, cap, cells, q, _⟩ := view_of_rep R.F hv
      exact ⟨rfl, sl _ _ _ hd q.val (by have := q.le; have := q.max; omega)⟩
    case nil =>
      cases hd : isSliceD i.d <;> simp only [hd] at hs
      · simp at hs
      simp only [Option.some.injEq, Prod.mk.injEq] at hs
      obtain ⟨rfl, rfl, rfl⟩ := hs
      simp only [RV] at hv
      exact ⟨rfl, by simpa using sl 0 none 0 hd hv (by simp)⟩
    case own id =>
      simp only [RV] at hv
      obtain ⟨hU, rfl, _⟩ := hv
      cases hd : isSliceD i.d <;> simp only [hd] at hs
      · simp at hs
      cases ho : lookN h id with
      | none => simp [ho] at hs
      | some o =>
        cases o <;> simp only [ho] at hs
        all_goals try (simp at hs; done)
        case arr te e ys =>
          simp only [Option.some.injEq, Prod.mk.injEq] at hs
          obtain ⟨rfl, rfl, rfl⟩ := hs
          obtain ⟨A, cap, cells, q⟩ := view_of_arr (R.obj id _ ho).2
          exact ⟨rfl, sl _ _ _ hd q.val (by have := q.le; have := q.max; omega)⟩
        case ice e ys =>
          simp only [Option.some.injEq, Prod.mk.injEq] at hs
          obtain ⟨rfl, rfl, rfl⟩ := hs
          have := (R.obj id _ ho).2
          simp only [RO] at this
          obtain ⟨A, cap, cells, q, _⟩ := view_of_rep R.F this
          exact ⟨rfl, sl _ _ _ hd q.val (by have := q.le; have := q.max; omega)⟩

theorem rp_of_view {e : Ty} {xs : List e.den} {x : Value} {A : Option Addr} {cap : Nat} {cells : List Value} (q : View w g.F e xs x A cap cells)
    (hF : ∀ ad, A = some ad → xs ≠ [] → g.F ad.block) {n : Nat} (hn : n < xs.length) :
    ∃ ad, A = some ad ∧ RV C w g (.rp (ofDen e (xs.getD n e.dflt))) (.pointer (some (ad.add (n * e.cells)))) := by
  obtain ⟨hval, h2, h3, h4, h5, h6, h7⟩ := q
  cases A with
  | none => have := h5 rfl; omega
  | some ad =>
    obtain ⟨ci, hrep, htk⟩ := reps_at e xs cells h2 n hn
    refine ⟨ad, rfl, ?_⟩
    simp only [RV]
    refine ⟨_, ci, rfl, ?_, fun j y hy => ?_, ?_⟩
    · rw [add_block]
      exact hF ad rfl (by intro h0; subst h0; simp at hn)
    · have hl := rep_len e _ ci hrep
      have hj : j < e.cells := by have := (List.getElem?_eq_some_iff.1 hy).1; omega
      rw [← htk, List.getElem?_take_of_lt hj, List.getElem?_drop] at hy
      rw [add_add]
      exact h6 ad rfl _ y hy
    · rw [getD_get _ _ _ hn]
      exact RVs_ofDen e _ ci hrep

theorem run_indexAt_slice {P : Program} {t te : TypeId} {inf : TypeInfo} {e : Ty} (h1 : P.underlying t = some (.slice te)) (h2 : P.info? te = some inf) (h3 : inf.size = e.cells)
    {ad : Addr} {n m c : Nat} {k : IntKind} (hn : n < m) :
    (Instr.indexAt t (.slice (some ad) m c) (.int k (n : Int))).run P w = .ok (.pointer (some (ad.add (n * e.cells)))) w := by
  simp [Instr.indexAt, asIntOf, run_underlying h1, sizeOf, typeInfo, h2, h3, hn]

theorem indexAddrV_sound {P : Program} {T : Tab} (hT : TabOk P T) (R : RelH C h w g) {t : TypeId} {a ix v : V} {x y : Value} {c : List Prop} {news : Heap}
    (hs : indexAddrV T t a ix h = some (c, v, news)) (hc : ∀ p ∈ c, p) (ha : RV C w g a x) (hi : RV C w g ix y) :
    news = [] ∧ ∃ val, (Instr.indexAt t x y).run P w = .ok val w ∧ RV C w g v val := by
  unfold indexAddrV at hs
  cases ix <;> simp only at hs
  all_goals try (simp at hs; done)
  rename_i k n
  simp only [RV] at hi
  obtain ⟨rfl, _, _⟩ := hi
  cases he : elemT T t with
  | some p =>
    obtain ⟨te, e, bytes, zero⟩ := p
    obtain ⟨inf, z, g1, g2, g3, _⟩ := elem_of hT he
    simp only [he] at hs
    have data : ∀ (xs : List e.den) (A : Option Addr) (cap : Nat) (cells : List Value), View w g.F e xs x A cap cells → (∀ ad, A = some ad → xs ≠ [] → g.F ad.block) → 0 ≤ n → n < xs.length →
        ∃ val, (Instr.indexAt t x (.int k n)).run P w = .ok val w ∧ RV C w g (.rp (ofDen e (xs.getD n.toNat e.dflt))) val := by
      intro xs A cap cells q hF h0 hn
      obtain ⟨m, rfl⟩ := Int.eq_ofNat_of_zero_le h0
      simp only [Int.toNat_natCast] at *
      have hn' : m < xs.length := by omega
      obtain ⟨ad, rfl, hrv⟩ := rp_of_view (C := C) q hF hn'
      rw [q.val]
      exact ⟨_, run_indexAt_slice g1 g2 g3 hn', hrv⟩
    cases a <;> simp only at hs
    all_goals try (simp at hs; done)
    case sl e' xs' =>
      cases hcast : castL e' e xs' with
      | none => simp [hcast] at hs
      | some xs =>
        simp only [hcast, Option.some.injEq, Prod.mk.injEq] at hs
        obtain ⟨rfl, rfl, rfl⟩ := hs
        obtain ⟨rfl, hxs⟩ := castL_eq hcast
        simp at hxs
        subst hxs
        simp only [RV] at ha
        obtain ⟨A, cap, cells, q, hF⟩ := view_of_rep R.F ha
        exact ⟨rfl, data _ A cap cells q hF (hc _ (by simp)) (hc _ (by simp))⟩
    case own id =>
      simp only [RV] at ha
      obtain ⟨hU, rfl, _⟩ := ha
      cases ho : lookN h id with
      | none => simp [ho] at hs
      | some o =>
        cases o <;> simp only [ho] at hs
        all_goals try (simp at hs; done)
        case arr te' e' xs' =>
          cases hcast : castL e' e xs' with
          | none => simp [hcast] at hs
          | some xs =>
            simp only [hcast, Option.some.injEq, Prod.mk.injEq] at hs
            obtain ⟨rfl, rfl, rfl⟩ := hs
            obtain ⟨rfl, hxs⟩ := castL_eq hcast
            simp at hxs
            subst hxs
            have h0 : 0 ≤ n := hc _ (by simp)
            have h1 : n < xs'.length := hc _ (by simp)
            obtain ⟨m, rfl⟩ := Int.eq_ofNat_of_zero_le h0
            obtain ⟨A, cap, cells, q⟩ := view_of_arr (R.obj id _ ho).2
            have hm : m < xs'.length := by simpa using h1
            cases A with
            | none => have := q.nil rfl; have := q.le; omega
            | some ad =>
              rw [q.val]
              refine ⟨rfl, _, run_indexAt_slice g1 g2 g3 hm, ?_⟩
              simp only [RV]
              exact ⟨hU, ad, _, _, q.val, by simp⟩
        case ice e' xs' =>
          cases hcast : castL e' e xs' with
          | none => simp [hcast] at hs
          | some xs =>
            simp only [hcast, Option.some.injEq, Prod.mk.injEq] at hs
            obtain ⟨rfl, rfl, rfl⟩ := hs
            obtain ⟨rfl, hxs⟩ := castL_eq hcast
            simp at hxs
            subst hxs
            have hr := (R.obj id _ ho).2
            simp only [RO] at hr
            obtain ⟨A, cap, cells, q, hF⟩ := view_of_rep R.F hr
            exact ⟨rfl, data _ A cap cells q hF (hc _ (by simp)) (hc _ (by simp))⟩
  | none =>
    simp only [he] at hs
    cases hti : T.ti t with
    | none => simp [hti] at hs
    | some i =>
      obtain ⟨d, size, bytes, zero, row, eqk⟩ := i
      obtain ⟨inf, u, z, g1, g2, g3, g4, g5⟩ := ti_of hT hti
      cases d <;> simp only [hti] at hs
      all_goals try (simp at hs; done)
      case arr m te =>
      obtain rfl := und_arr g4
      cases hte : T.ti te with
      | none => simp [hte] at hs
      | some ie =>
        obtain ⟨inf2, u2, z2, k1, k2, k3, k4, k5, _⟩ := ti_of hT hte
        cases a <;> simp only [hte] at hs
        all_goals try (simp at hs; done)
        rename_i id col
        cases n with
        | negSucc q => simp at hs
        | ofNat q =>
          simp only at hs
          cases hb : Nat.blt q m
          · simp [hb] at hs
          · simp only [hb, Option.some.injEq, Prod.mk.injEq] at hs
            obtain ⟨rfl, rfl, rfl⟩ := hs
            have hq : q < m := by simp [Nat.blt] at hb; omega
            simp only [RV] at ha ⊢
            obtain ⟨hU, ad, h1, rfl⟩ := ha
            refine ⟨trivial, .pointer (some ((ad.add col).add (q * ie.size))), ?_, hU, ad, h1, by rw [add_add]⟩
            simp [Instr.indexAt, asIntOf, run_underlying g2, Instr.sureAddr, sizeOf, typeInfo, k1, k5, hq]

theorem indexV_sound {P : Program} {ix a v : V} {x y : Value} {c : List Prop} {t : TypeId} (hu : P.underlying t = some .string) (hs : indexV ix a = some (c, v)) (hc : ∀ p ∈ c, p) (ha : RV C w g a x) (hi : RV C w g ix y) :
    ∃ val, (Instr.index t x y).run P w = .ok val w ∧ RV C w g v val := by
  unfold indexV at hs
  cases a <;> cases ix <;> simp only at hs
  all_goals try (simp at hs; done)
  rename_i l k n
  simp only [Option.some.injEq, Prod.mk.injEq] at hs
  obtain ⟨rfl, rfl⟩ := hs
  simp only [RV] at ha hi
  obtain ⟨rfl, _⟩ := ha
  obtain ⟨rfl, _, _⟩ := hi
  have h0 : 0 ≤ n := hc _ (by simp)
  have h1 : n < l.length := hc _ (by simp)
  obtain ⟨m, rfl⟩ := Int.eq_ofNat_of_zero_le h0
  have hm : m < l.length := by simpa using h1
  refine ⟨.int .u8 ((l.getD m 0).toNat : Int), ?_, ?_⟩
  · have hg : (⟨⟨l⟩⟩ : ByteArray)[m]? = some l[m] := by
      have : m < (⟨⟨l⟩⟩ : ByteArray).size := hm
      rw [getElem?_pos _ m this]
      rfl
    simp [Instr.index, asIntOf, run_underlying hu, hg, List.getD, List.getElem?_eq_getElem hm]
  · simp only [RV, Int.toNat_natCast, true_and]
    have := (l.getD m 0).toNat_lt
    generalize (l.getD m 0).toNat = q at *
    simp [IntKind.min, IntKind.max, IntKind.signed, IntKind.bits]; omega
end
end Go.Eng

set_option linter.unusedVariables false
set_option linter.unusedSimpArgs false
namespace Go.Eng
open Go.RowKit (Below)
section
variable {C : Cx} {w w' : World} {g g' : Gh} {h : Heap} {P : Program} {T : Tab}
theorem field_of (hT : TabOk P T) {t ft : TypeId} {f off : Nat} (hs : fieldOff T t f = some (ft, off)) :
    ∃ gs fd inf, P.underlying t = some (.struct gs) ∧ gs[f]? = some fd ∧ fd.type = ft ∧ fd.offset = off ∧ P.info? ft = some inf ∧ inf.size ≠ 0 := by
  unfold fieldOff at hs
  cases hti : T.ti t with
  | none => simp [hti] at hs
  | some i =>
    obtain ⟨d, size, bytes, zero, row, eqk⟩ := i
    obtain ⟨inf, u, z, g1, g2, g3, g4, g5⟩ := ti_of hT hti
    cases d <;> simp only [hti] at hs
    all_goals try (simp at hs; done)
    case struct fs =>
    obtain ⟨gs, rfl, hgs⟩ := und_struct g4
    cases hf : fs[f]? with
    | none => simp [hf] at hs
    | some p =>
      obtain ⟨ft', off'⟩ := p
      simp only [hf] at hs
      cases hft : T.ti ft' with
      | none => simp [hft] at hs
      | some ie =>
        obtain ⟨inf2, u2, z2, k1, k2, k3, k4, k5, k6⟩ := ti_of hT hft
        simp only [hft] at hs
        cases hz : ie.size with
        | zero => simp [hz] at hs
        | succ q =>
          simp only [hz, Option.some.injEq, Prod.mk.injEq] at hs
          obtain ⟨rfl, rfl⟩ := hs
          rw [← hgs, List.getElem?_map] at hf
          cases hfd : gs.toList[f]? with
          | none => rw [hfd] at hf; simp at hf
          | some fd =>
            rw [hfd] at hf
            simp only [Option.map_some, Option.some.injEq, Prod.mk.injEq] at hf
            exact ⟨gs, fd, inf2, g2, by rw [← hfd]; simp, hf.1, hf.2, k1, by omega⟩

theorem fieldAddrV_sound (hT : TabOk P T) {t : TypeId} {a v : V} {x : Value} {f : Nat} (hs : fieldAddrV T t a f = some v) (ha : RV C w g a x) :
    ∃ val, (Instr.fieldAt t x f).run P w = .ok val w ∧ RV C w g v val := by
  unfold fieldAddrV at hs
  cases hf : fieldOff T t f with
  | none => cases a <;> simp [hf] at hs
  | some p =>
    obtain ⟨ft, off⟩ := p
    obtain ⟨gs, fd, inf, h1, h2, h3, h4, h5, h6⟩ := field_of hT hf
    have run : ∀ ad : Addr, (Instr.fieldAt t (.pointer (some ad)) f).run P w = .ok (.pointer (some (ad.add off))) w := fun ad => by
      simp [Instr.fieldAt, run_underlying h1, h2, Instr.sureAddr, fieldPlace, sizeOf, typeInfo, h3, h5, h6, h4]
    cases a <;> simp only [hf] at hs
    all_goals try (simp at hs; done)
    case ptr id col =>
      simp only [Option.some.injEq] at hs
      subst hs
      simp only [RV] at ha ⊢
      obtain ⟨hU, ad, k1, rfl⟩ := ha
      exact ⟨_, run _, hU, ad, k1, by rw [add_add]⟩
    case rp cs =>
      simp only [Option.some.injEq] at hs
      subst hs
      simp only [RV] at ha ⊢
      obtain ⟨ad, vs, rfl, hF, hc, hv⟩ := ha
      refine ⟨_, run _, ad.add off, vs.drop off, rfl, by rw [add_block]; exact hF, fun j y hy => ?_, RVs_drop off hv⟩
      rw [List.getElem?_drop] at hy
      rw [add_add]
      exact hc _ y hy
    case ep id e row col =>
      simp only [Option.some.injEq] at hs
      subst hs
      simp only [RV] at ha ⊢
      obtain ⟨hU, ad, n, c, k1, rfl⟩ := ha
      exact ⟨_, run _, hU, ad, n, c, k1, by rw [add_add, Nat.add_assoc]⟩

theorem fieldV_sound (hT : TabOk P T) {t : TypeId} {a v : V} {x : Value} {f : Nat} (hs : fieldV T t a f = some v) (ha : RV C w g a x) :
    ∃ val, (Instr.field t x f).run P w = .ok val w ∧ RV C w g v val := by
  unfold fieldV at hs
  cases hf : fieldOff T t f with
  | none => cases a <;> simp [hf] at hs
  | some p =>
    obtain ⟨ft, off⟩ := p
    obtain ⟨gs, fd, inf, h1, h2, h3, h4, h5, h6⟩ := field_of hT hf
    cases a <;> simp only [hf] at hs
    all_goals try (simp at hs; done)
    case agg cs =>
    cases hft : T.ti ft with
    | none => simp [hft] at hs
    | some i =>
      obtain ⟨inf2, u2, z2, k1, k2, k3, k4, k5, k6⟩ := ti_of hT hft
      simp only [hft] at hs
      cases hb : Nat.ble (off + i.size) cs.length
      · simp [hb] at hs
      · simp only [hb] at hs
        have hle := Nat.le_of_ble_eq_true hb
        simp only [RV] at ha
        obtain ⟨vs, rfl, hv⟩ := ha
        have hvl := RVs_len hv
        rw [h5] at k1
        simp at k1
        subst k1
        have hvs := RVs_take i.size (RVs_drop off hv)
        unfold mkV at hs
        cases hag : isAggD i.d
        · simp only [hag] at hs
          split at hs
          · rename_i c hcs
            simp only [Option.some.injEq] at hs
            subst hs
            rw [hcs] at hvs
            simp only [RVs] at hvs
            obtain ⟨y, ys, hy, hrv, rfl⟩ := hvs
            refine ⟨y, ?_, hrv⟩
            have hget : vs[off]? = some y := by
              have h0 : ((vs.drop off).take i.size)[0]? = some y := by rw [hy]; rfl
              have hpos : 0 < i.size := by omega
              rw [List.getElem?_take_of_lt hpos, List.getElem?_drop] at h0
              simpa using h0
            simp [Instr.field, run_underlying h1, h2, asAgg, part, h3, h4, run_isAgg k2, k4, hag, hget]
          · simp at hs
        · simp only [hag, Option.some.injEq] at hs
          subst hs
          refine ⟨.agg ((vs.drop off).take i.size).toArray, ?_, by simp only [RV]; exact ⟨_, rfl, hvs⟩⟩
          simp [Instr.field, run_underlying h1, h2, asAgg, part, h3, h4, run_isAgg k2, k4, hag, sizeOf, typeInfo, h5, k5]

theorem run_sliceBounds (isS : Bool) (len cap : Nat) (lo hi : Option Value) {a b : Nat} (hlo : lo = none ∧ a = 0 ∨ ∃ k, lo = some (.int k (a : Int))) (hhi : hi = none ∧ b = len ∨ ∃ k, hi = some (.int k (b : Int)))
    (h1 : a ≤ b) (h2 : b ≤ cap) : (Instr.sliceBounds isS len cap lo hi none).run P w = .ok (a, b, cap) w := by
  have e1 : ∀ (k : IntKind) (code : BoundsCode), (Instr.sliceBound (.int k (b : Int)) cap code).run P w = .ok b w := fun k code => by
    simp [Instr.sliceBound, asIntOf, h2]
  have e2 : ∀ (k : IntKind) (code : BoundsCode), (Instr.sliceBound (.int k (a : Int)) b code).run P w = .ok a w := fun k code => by
    simp [Instr.sliceBound, asIntOf, h1]
  rcases hlo with ⟨rfl, rfl⟩ | ⟨k1, rfl⟩ <;> rcases hhi with ⟨rfl, rfl⟩ | ⟨k2, rfl⟩ <;> simp [Instr.sliceBounds, e1, e2]

theorem optInt_rel {o : Option V} {x : Option Value} {d n : Int} (hs : optInt o d = some n) (hr : (o = none ∧ x = none) ∨ ∃ v y, o = some v ∧ x = some y ∧ RV C w g v y) :
    (x = none ∧ n = d) ∨ ∃ k, x = some (.int k n) := by
  unfold optInt at hs
  rcases hr with ⟨rfl, rfl⟩ | ⟨v, y, rfl, rfl, hv⟩
  · simp at hs; exact .inl ⟨rfl, hs.symm⟩
  · cases v <;> simp only at hs
    all_goals try (simp at hs; done)
    case i k m =>
    simp only [Option.some.injEq] at hs
    subst hs
    simp only [RV] at hv
    exact .inr ⟨k, by rw [hv.1]⟩

def OptRel (C : Cx) (w : World) (g : Gh) (o : Option V) (x : Option Value) : Prop := (o = none ∧ x = none) ∨ ∃ v y, o = some v ∧ x = some y ∧ RV C w g v y
theorem optRel_map {env : Env} {a : Act} (R : RelE C env a.tmps w g) (o : Option Operand) : OptRel C w g (o.map (rd env)) (o.map a.eval) := by
  cases o with
  | none => exact .inl ⟨rfl, rfl⟩
  | some x => exact .inr ⟨_, _, rfl, rfl, rd_rel R x⟩

theorem extract_list (l : List UInt8) (a b : Nat) : (⟨⟨l⟩⟩ : ByteArray).extract a b = ⟨⟨(l.take b).drop a⟩⟩ := by
  have : ((⟨⟨l⟩⟩ : ByteArray).extract a b).data = (⟨(l.take b).drop a⟩ : Array UInt8) := by
    simp only [ByteArray.data_extract]
    apply Array.ext'
    simp [List.extract_eq_take_drop, List.drop_take]
  cases h : (⟨⟨l⟩⟩ : ByteArray).extract a b
  rw [h] at this
  simp only at this
  rw [this]

theorem view_cut {e : Ty} {xs : List e.den} {x : Value} {A : Option Addr} {cap : Nat} {cells : List Value} {F : Nat → Prop} (q : View w F e xs x A cap cells) {a b : Nat} (h1 : a ≤ b) (h2 : b ≤ xs.length) :
    View w F e ((xs.take b).drop a) (.slice (if cap = a then A else A.map (·.add (a * e.cells))) (b - a) (cap - a)) (if cap = a then A else A.map (·.add (a * e.cells))) (cap - a) ((cells.take (b * e.cells)).drop (a * e.cells)) := by
  have hle := q.le
  have hlen : ((xs.take b).drop a).length = b - a := by simp; omega
  refine ⟨by rw [hlen], reps_drop e _ _ (reps_take e _ _ q.rows b) a, by rw [hlen]; omega, by have := q.max; omega, fun hn => ?_, fun ad had j u hu => ?_, fun ad had hne => ?_⟩
  · by_cases hc : cap = a
    · omega
    · rw [if_neg hc] at hn
      cases A with
      | none => have := q.nil rfl; omega
      | some _ => simp at hn
  · have hj : a * e.cells + j < cells.length := by
      have hlt := (List.getElem?_eq_some_iff.1 hu).1
      simp only [List.length_drop, List.length_take] at hlt
      omega
    by_cases hc : cap = a
    · have hxe : a = b := by omega
      subst hxe
      have : (cells.take (a * e.cells)).drop (a * e.cells) = [] := by
        apply List.drop_eq_nil_of_le; simp; omega
      rw [this] at hu; simp at hu
    · rw [if_neg hc] at had
      cases A with
      | none => simp at had
      | some ad0 =>
        simp only [Option.map_some, Option.some.injEq] at had
        subst had
        have hjb : a * e.cells + j < b * e.cells := by
          have hlt := (List.getElem?_eq_some_iff.1 hu).1
          simp only [List.length_drop, List.length_take] at hlt
          omega
        rw [List.getElem?_drop, List.getElem?_take_of_lt hjb] at hu
        rw [add_add]
        exact q.cell ad0 rfl _ u hu
  · by_cases hc : cap = a
    · exfalso
      apply hne
      apply List.eq_nil_of_length_eq_zero
      rw [hlen]; omega
    · rw [if_neg hc] at had
      cases A with
      | none => simp at had
      | some ad0 =>
        simp only [Option.map_some, Option.some.injEq] at had
        subst had
        rw [add_block]
        refine q.blk ad0 rfl (fun h0 => hne ?_)
        subst h0; simp

theorem sliceV_sound (hT : TabOk P T) (R : RelH C h w g) {t : TypeId} {a v : V} {x : Value} {lo hi mx : Option V} {lx hx mxx : Option Value} {c : List Prop} {news : Heap}
    (hs : sliceV T t a lo hi mx h = some (c, v, news)) (hc : ∀ p ∈ c, p) (ha : RV C w g a x) (hlo : OptRel C w g lo lx) (hhi : OptRel C w g hi hx) (hmx : OptRel C w g mx mxx) :
    news = [] ∧ ∃ val, (Instr.sliceAt t x lx hx mxx).run P w = .ok val w ∧ RV C w g v val := by
  unfold sliceV at hs
  cases mx with
  | some _ => simp at hs
  | none =>
    rcases hmx with ⟨_, rfl⟩ | ⟨_, _, h0, _⟩
    case inr => simp at h0
    simp only at hs
    have nums : ∀ {n : Nat} {A B : Int}, optInt lo 0 = some A → optInt hi n = some B → 0 ≤ A → A ≤ B → B ≤ n →
        ∃ a b : Nat, A = a ∧ B = b ∧ (lx = none ∧ a = 0 ∨ ∃ k, lx = some (.int k (a : Int))) ∧ (hx = none ∧ b = n ∨ ∃ k, hx = some (.int k (b : Int))) ∧ a ≤ b ∧ b ≤ n := by
      intro n A B h1 h2 h3 h4 h5
      obtain ⟨a, rfl⟩ := Int.eq_ofNat_of_zero_le h3
      obtain ⟨b, rfl⟩ := Int.eq_ofNat_of_zero_le (Int.le_trans h3 h4)
      refine ⟨a, b, rfl, rfl, ?_, ?_, by omega, by omega⟩
      · rcases optInt_rel h1 hlo with ⟨q1, q2⟩ | q
        · exact .inl ⟨q1, by omega⟩
        · exact .inr q
      · rcases optInt_rel h2 hhi with ⟨q1, q2⟩ | q
        · exact .inl ⟨q1, by omega⟩
        · exact .inr q
    have data : ∀ (v0 : V), RV C w g v0 x → (match elemT T t with
        | some (_, e, _, _) => match viewL h false e v0 with
          | some xs => match optInt lo 0, optInt hi xs.length with
            | some a, some b => some ([0 ≤ a, a ≤ b, b ≤ xs.length], V.sl e ((xs.take b.toNat).drop a.toNat), ([] : Heap))
            | _, _ => none
          | none => none
        | none => none) = some (c, v, news) → news = [] ∧ ∃ val, (Instr.sliceAt t x lx hx none).run P w = .ok val w ∧ RV C w g v val := by
      intro v0 hv0 hs
      cases he : elemT T t with
      | none => simp [he] at hs
      | some p =>
        obtain ⟨te, e, bytes, zero⟩ := p
        simp only [he] at hs
        obtain ⟨inf, z, g1, g2, g3, _⟩ := elem_of hT he
        cases hvw : viewL h false e v0 with
        | none => simp [hvw] at hs
        | some xs =>
          simp only [hvw] at hs
          obtain ⟨A, cap, cells, q, hF⟩ := viewL_sound R hvw hv0
          cases hA : optInt lo 0 with
          | none => simp [hA] at hs
          | some a0 =>
            cases hB : optInt hi xs.length with
            | none => simp [hA, hB] at hs
            | some b0 =>
              simp only [hA, hB, Option.some.injEq, Prod.mk.injEq] at hs
              obtain ⟨rfl, rfl, rfl⟩ := hs
              obtain ⟨a1, b1, rfl, rfl, n1, n2, n3, n4⟩ := nums hA hB (hc _ (by simp)) (hc _ (by simp)) (hc _ (by simp))
              simp only [Int.toNat_natCast]
              have hcut := view_cut q n3 n4
              have hFc : false = false → ∀ ad, (if cap = a1 then A else A.map (·.add (a1 * e.cells))) = some ad → ((xs.take b1).drop a1) ≠ [] → g.F ad.block := fun _ ad had hne => by
                by_cases hcc : cap = a1
                · exfalso
                  apply hne
                  apply List.eq_nil_of_length_eq_zero
                  have := q.le
                  simp; omega
                · rw [if_neg hcc] at had
                  cases A with
                  | none => simp at had
                  | some ad0 =>
                    simp only [Option.map_some, Option.some.injEq] at had
                    subst had
                    rw [add_block]
                    exact hF rfl ad0 rfl (fun h0 => hne (by subst h0; simp))
              have hrep := rep_mono (w' := w) (F' := g.F) (fun b hb => ⟨by simpa [Fown] using hb, rfl⟩) _ _ _ (hcut.rep (own := false) hFc)
              refine ⟨trivial, .slice (if cap = a1 then A else A.map (·.add (a1 * e.cells))) (b1 - a1) (cap - a1), ?_, by simp only [RV]; exact hrep⟩
              have hle := q.le
              have hb := run_sliceBounds (P := P) (w := w) true xs.length cap lx hx n1 n2 n3 (by omega)
              rw [q.val]
              simp [Instr.sliceAt, Instr.slice, run_underlying g1, hb, sizeOf, typeInfo, g2, g3]
    cases a
    case s l =>
      simp only at hs
      cases hti : T.ti t with
      | none => simp [hti] at hs
      | some i =>
        obtain ⟨d, size, bytes, zero, row, eqk⟩ := i
        obtain ⟨inf, u, z, g1, g2, g3, g4, g5⟩ := ti_of hT hti
        cases d <;> simp only [hti] at hs
        all_goals try (simp at hs; done)
        obtain rfl := und_str g4
        cases hA : optInt lo 0 with
        | none => simp [hA] at hs
        | some a0 =>
          cases hB : optInt hi l.length with
          | none => simp [hA, hB] at hs
          | some b0 =>
            simp only [hA, hB, Option.some.injEq, Prod.mk.injEq] at hs
            obtain ⟨rfl, rfl, rfl⟩ := hs
            obtain ⟨a1, b1, rfl, rfl, n1, n2, n3, n4⟩ := nums hA hB (hc _ (by simp)) (hc _ (by simp)) (hc _ (by simp))
            simp only [RV] at ha
            obtain ⟨rfl, hl⟩ := ha
            have hb := run_sliceBounds (P := P) (w := w) false l.length l.length lx hx n1 n2 n3 n4
            have hsz : (⟨⟨l⟩⟩ : ByteArray).size = l.length := rfl
            refine ⟨rfl, .string ⟨⟨(l.take b1).drop a1⟩⟩, ?_, ?_⟩
            · simp [Instr.sliceAt, Instr.slice, run_underlying g2, hsz, hb, extract_list]
            · simp only [RV, Int.toNat_natCast, true_and]
              simp; omega
    case nil => simp at hs
    all_goals exact data _ ha hs
end
end Go.Eng

set_option linter.unusedVariables false
set_option linter.unusedSimpArgs false
namespace Go.Eng
open Go.RowKit (Below)
section
variable {C : Cx} {w w' : World} {g g' : Gh} {h : Heap} {P : Program} {T : Tab}
theorem wrap_bounds (k : IntKind) (n : Int) : k.min ≤ k.wrap n ∧ k.wrap n ≤ k.max := by
  cases k <;> simp only [IntKind.wrap, IntKind.min, IntKind.max, IntKind.signed, IntKind.bits, Bool.true_and, Bool.false_and, ite_true, ite_false, Bool.false_eq_true] <;> (try split) <;> (try simp only [decide_eq_true_eq, ge_iff_le] at *) <;> (simp only [Int.reducePow, Nat.reduceSub] at *) <;> omega

theorem RV_wrap (k : IntKind) (n : Int) : RV C w g (.i k (k.wrap n)) (.int k (k.wrap n)) := by
  simp only [RV, true_and]; exact wrap_bounds k n

theorem run_intBits (op : BinOp) (k : IntKind) (a b : Int) (ho : op = .and ∨ op = .or ∨ op = .xor ∨ op = .andNot) : (Op.intBits op k a b).run P w = .ok (.int k (ibits op k a b)) w := by
  rcases ho with rfl | rfl | rfl | rfl <;> simp [Op.intBits, ibits]

theorem binInt_sound {op : BinOp} {k : IntKind} {a b : Int} {c : List Prop} {v : V} (hs : binInt op k a b = some (c, v)) (hc : ∀ p ∈ c, p) {t : TypeId} (hop : op ≠ .shl ∧ op ≠ .shr) :
    ∃ val, (binOp op t (.int k a) (.int k b)).run P w = .ok val w ∧ RV C w g v val := by
  cases op <;> simp only [binInt, Option.some.injEq, Prod.mk.injEq] at hs
  all_goals try (simp at hs; done)
  case add => obtain ⟨rfl, rfl⟩ := hs; exact ⟨.int k (k.wrap (a + b)), by simp [binOp, Op.intArith], RV_wrap _ _⟩
  case sub => obtain ⟨rfl, rfl⟩ := hs; exact ⟨.int k (k.wrap (a - b)), by simp [binOp, Op.intArith], RV_wrap _ _⟩
  case mul => obtain ⟨rfl, rfl⟩ := hs; exact ⟨.int k (k.wrap (a * b)), by simp [binOp, Op.intArith], RV_wrap _ _⟩
  case quo =>
    obtain ⟨rfl, rfl⟩ := hs
    have hb : b ≠ 0 := hc _ (by simp)
    exact ⟨.int k (k.wrap (a.tdiv b)), by simp [binOp, Op.intDiv, hb], RV_wrap _ _⟩
  case rem =>
    obtain ⟨rfl, rfl⟩ := hs
    have hb : b ≠ 0 := hc _ (by simp)
    have hk : inK k (a.tmod b) = true := hc _ (by simp)
    exact ⟨.int k (a.tmod b), by simp [binOp, Op.intDiv, hb], by simp only [RV, true_and]; exact (inK_iff _ _).1 hk⟩
  case and => obtain ⟨rfl, rfl⟩ := hs; exact ⟨.int k (ibits .and k a b), by have := run_intBits (P := P) (w := w) .and k a b (by simp); simpa only [binOp, ne_eq, not_true_eq_false, if_false] using this, RV_wrap _ _⟩
  case or => obtain ⟨rfl, rfl⟩ := hs; exact ⟨.int k (ibits .or k a b), by have := run_intBits (P := P) (w := w) .or k a b (by simp); simpa only [binOp, ne_eq, not_true_eq_false, if_false] using this, RV_wrap _ _⟩
  case xor => obtain ⟨rfl, rfl⟩ := hs; exact ⟨.int k (ibits .xor k a b), by have := run_intBits (P := P) (w := w) .xor k a b (by simp); simpa only [binOp, ne_eq, not_true_eq_false, if_false] using this, RV_wrap _ _⟩
  case andNot => obtain ⟨rfl, rfl⟩ := hs; exact ⟨.int k (ibits .andNot k a b), by have := run_intBits (P := P) (w := w) .andNot k a b (by simp); simpa only [binOp, ne_eq, not_true_eq_false, if_false] using this, RV_wrap _ _⟩
  case eql => obtain ⟨rfl, rfl⟩ := hs; exact ⟨.bool (a == b), by simp [binOp, Op.intCmp], by simp [RV]⟩
  case neq => obtain ⟨rfl, rfl⟩ := hs; exact ⟨.bool (a != b), by simp [binOp, Op.intCmp], by simp [RV]⟩
  case lss => obtain ⟨rfl, rfl⟩ := hs; exact ⟨.bool (decide (a < b)), by simp [binOp, Op.intCmp], by simp [RV]⟩
  case leq => obtain ⟨rfl, rfl⟩ := hs; exact ⟨.bool (decide (a ≤ b)), by simp [binOp, Op.intCmp], by simp [RV]⟩
  case gtr => obtain ⟨rfl, rfl⟩ := hs; exact ⟨.bool (decide (a > b)), by simp [binOp, Op.intCmp], by simp [RV]⟩
  case geq => obtain ⟨rfl, rfl⟩ := hs; exact ⟨.bool (decide (a ≥ b)), by simp [binOp, Op.intCmp], by simp [RV]⟩

theorem str_list (l : List UInt8) : (⟨⟨l⟩⟩ : ByteArray).toList = l := by rw [ByteArray.toList_eq]
theorem binStr_sound {op : BinOp} {a b : List UInt8} {c : List Prop} {v : V} (hs : binStr op a b = some (c, v)) (hc : ∀ p ∈ c, p) {t : TypeId} :
    ∃ val, (binOp op t (.string ⟨⟨a⟩⟩) (.string ⟨⟨b⟩⟩)).run P w = .ok val w ∧ RV C w g v val := by
  cases op <;> simp only [binStr, Option.some.injEq, Prod.mk.injEq] at hs
  all_goals try (simp at hs; done)
  case add =>
    obtain ⟨rfl, rfl⟩ := hs
    have hl : a.length + b.length ≤ maxLen := hc _ (by simp)
    refine ⟨.string ⟨⟨a ++ b⟩⟩, ?_, by simp [RV, hl]⟩
    have hr := run_string_add_sum (P := P) w ⟨⟨a⟩⟩ ⟨⟨b⟩⟩ (by show a.length + b.length ≤ _; simp only [maxLen] at hl; omega)
    have e : (⟨⟨a⟩⟩ : ByteArray) ++ ⟨⟨b⟩⟩ = ⟨⟨a ++ b⟩⟩ := by
      rw [ByteArray.mk_append_mk]
    simp [binOp, hr, e]
  case eql => obtain ⟨rfl, rfl⟩ := hs; exact ⟨.bool (a == b), by simp [binOp, Op.stringOp], by simp [RV]⟩
  case neq => obtain ⟨rfl, rfl⟩ := hs; exact ⟨.bool (!(a == b)), by simp [binOp, Op.stringOp], by simp [RV]⟩
  case lss => obtain ⟨rfl, rfl⟩ := hs; exact ⟨.bool (sless a b), by simp [binOp, Op.stringOp], by simp [RV]⟩
  case leq => obtain ⟨rfl, rfl⟩ := hs; exact ⟨.bool (sless a b || a == b), by simp [binOp, Op.stringOp], by simp [RV]⟩
  case gtr => obtain ⟨rfl, rfl⟩ := hs; exact ⟨.bool (!(sless a b || a == b)), by simp [binOp, Op.stringOp], by simp [RV]⟩
  case geq => obtain ⟨rfl, rfl⟩ := hs; exact ⟨.bool (!(sless a b)), by simp [binOp, Op.stringOp], by simp [RV]⟩

theorem vbool_rel {v : V} {p : Bool} {x : Value} (h : vbool v = some p) (hv : RV C w g v x) : x = .bool p := by
  cases v <;> simp [vbool] at h <;> (subst h; simpa [RV] using hv)

theorem shiftV_sound {op : BinOp} {k k' : IntKind} {a b : Int} {c : List Prop} {v : V} (hs : shiftV op k a b = some (c, v)) (hc : ∀ p ∈ c, p) {t : TypeId} :
    ∃ val, (binOp op t (.int k a) (.int k' b)).run P w = .ok val w ∧ RV C w g v val := by
  cases op <;> simp only [shiftV, Option.some.injEq, Prod.mk.injEq] at hs
  all_goals try (simp at hs; done)
  case shl =>
    obtain ⟨rfl, rfl⟩ := hs
    have hb : 0 ≤ b := hc _ (by simp)
    have hb' : ¬ b < 0 := by omega
    exact ⟨.int k (k.wrap (a * 2 ^ (min b.toNat k.bits))), by simp [binOp, Op.shift, hb'], RV_wrap _ _⟩
  case shr =>
    obtain ⟨rfl, rfl⟩ := hs
    have hb : 0 ≤ b := hc _ (by simp)
    have hk : inK k (a.fdiv (2 ^ (min b.toNat k.bits))) = true := hc _ (by simp)
    have hb' : ¬ b < 0 := by omega
    exact ⟨.int k (a.fdiv (2 ^ (min b.toNat k.bits))), by simp [binOp, Op.shift, hb'], by simp only [RV, true_and]; exact (inK_iff _ _).1 hk⟩

theorem binOp_bools {t : TypeId} (ht : P.underlying t = some .bool) (p q : Bool) : (binOp .eql t (.bool p) (.bool q)).run P w = .ok (.bool (p == q)) w ∧ (binOp .neq t (.bool p) (.bool q)).run P w = .ok (.bool (!(p == q))) w := by
  have h : (Op.equalIn 10000 t (.bool p) (.bool q)).run P w = .ok (p == q) w := run_equalIn_bool' w 9999 t p q ht
  constructor
  · simp only [binOp]; simp [Op.equal, Op.maxDepth, h]
  · simp only [binOp]; simp [Op.equal, Op.maxDepth, h]

theorem fieldEq_sound (hT : TabOk P T) {d : Nat} {ft : TypeId} {i : TI} (hi : T.ti ft = some i) {a b : V} {x y : Value} {p : Bool}
    (hs : fieldEq i.d a b = some p) (ha : RV C w g a x) (hb : RV C w g b y) : (Op.equalIn (d + 1) ft x y).run P w = .ok p w ∧ isAggD i.d = false := by
  obtain ⟨inf, u, z, g1, g2, g3, g4, g5⟩ := ti_of hT hi
  unfold fieldEq at hs
  split at hs
  · rename_i kk k m k' n hd
    simp only [RV] at ha hb
    obtain ⟨rfl, _⟩ := ha
    obtain ⟨rfl, _⟩ := hb
    split at hs
    · rename_i hkk
      subst hkk
      simp only [Option.some.injEq] at hs
      subst hs
      rw [hd] at g4
      obtain rfl := und_int g4
      exact ⟨run_equalIn_int w d ft k kk m n g2, by rw [hd]; rfl⟩
    · simp at hs
  · rename_i l m hd
    simp only [RV] at ha hb
    obtain ⟨rfl, _⟩ := ha
    obtain ⟨rfl, _⟩ := hb
    simp only [Option.some.injEq] at hs
    subst hs
    rw [hd] at g4
    obtain rfl := und_str g4
    have := run_equalIn_string (P := P) w d ft ⟨⟨l⟩⟩ ⟨⟨m⟩⟩ g2
    rw [str_list, str_list] at this
    exact ⟨this, by rw [hd]; rfl⟩
  · rename_i hd
    split at hs
    · rename_i q r h1 h2
      simp only [Option.some.injEq] at hs
      have e1 := vbool_rel h1 ha
      have e2 := vbool_rel h2 hb
      subst e1; subst e2; subst hs
      rw [hd] at g4
      obtain rfl := und_bool g4
      exact ⟨run_equalIn_bool' w d ft q r g2, by rw [hd]; rfl⟩
    · simp at hs
  · simp at hs

theorem flatEq_sound (hT : TabOk P T) {d : Nat} {vs us : List Value} : ∀ (gs : List Field) (n : Nat) (cs ds : List V) (p : Bool), flatEq T n (gs.map fun f => (f.type, f.offset)) cs ds = some p →
    RVs C w g cs (vs.drop n) → RVs C w g ds (us.drop n) → (∀ f ∈ gs, f.name ≠ "_") → (Op.eqFields (d + 1) vs.toArray us.toArray gs).run P w = .ok p w := by
  have one : ∀ (f : Field) (n : Nat) (c e : V) (cs ds : List V) (i : TI) (q : Bool), T.ti f.type = some i → Nat.beq f.offset n = true → fieldEq i.d c e = some q →
      RVs C w g (c :: cs) (vs.drop n) → RVs C w g (e :: ds) (us.drop n) →
      ∃ x y, (part f.type vs.toArray f.offset).run P w = .ok x w ∧ (part f.type us.toArray f.offset).run P w = .ok y w ∧ (Op.equalIn (d + 1) f.type x y).run P w = .ok q w ∧ RVs C w g cs (vs.drop (n + 1)) ∧ RVs C w g ds (us.drop (n + 1)) := by
    intro f n c e cs ds i q hi hb hq hc hd
    obtain rfl := Nat.eq_of_beq_eq_true hb
    simp only [RVs] at hc hd
    obtain ⟨x, xs, hx, hcx, hcs⟩ := hc
    obtain ⟨y, ys, hy, hdy, hds⟩ := hd
    obtain ⟨inf, u, z, g1, g2, g3, g4, g5⟩ := ti_of hT hi
    obtain ⟨hr, hagg⟩ := fieldEq_sound hT (d := d) hi hq hcx hdy
    have gx : vs[f.offset]? = some x := by
      have : (vs.drop f.offset)[0]? = some x := by rw [hx]; rfl
      simpa using this
    have gy : us[f.offset]? = some y := by
      have : (us.drop f.offset)[0]? = some y := by rw [hy]; rfl
      simpa using this
    refine ⟨x, y, by simp [part, run_isAgg g2, g4, hagg, gx], by simp [part, run_isAgg g2, g4, hagg, gy], hr, ?_, ?_⟩
    · rw [← List.drop_drop, hx]; simpa using hcs
    · rw [← List.drop_drop, hy]; simpa using hds
  intro gs
  induction gs with
  | nil =>
    intro n cs ds p hs _ _ _
    cases cs <;> cases ds <;> simp [flatEq] at hs
    subst hs
    simp [Op.eqFields]
  | cons f gs ih =>
    intro n cs ds p hs hc hd hnm
    have hf : f.name ≠ "_" := hnm f (by simp)
    cases cs with
    | nil => cases gs <;> simp [flatEq] at hs
    | cons c cs =>
      cases ds with
      | nil => cases gs <;> cases cs <;> simp [flatEq] at hs
      | cons e ds =>
        have step : ∀ (i : TI) (q r : Bool), T.ti f.type = some i → Nat.beq f.offset n = true → fieldEq i.d c e = some q →
            (∀ (hc' : RVs C w g cs (vs.drop (n + 1))) (hd' : RVs C w g ds (us.drop (n + 1))), (Op.eqFields (d + 1) vs.toArray us.toArray gs).run P w = .ok r w) → p = (q && r) →
            (Op.eqFields (d + 1) vs.toArray us.toArray (f :: gs)).run P w = .ok p w := by
          intro i q r hi hb hq hrest hp
          obtain ⟨x, y, h1, h2, h3, h4, h5⟩ := one f n c e cs ds i q hi hb hq hc hd
          have h6 := hrest h4 h5
          subst hp
          simp only [Op.eqFields]
          cases q <;> simp [hf, h1, h2, h3, h6]
        have gen : ∀ (i : TI), T.ti f.type = some i → (match Nat.beq f.offset n, fieldEq i.d c e, flatEq T (n + 1) (gs.map fun f => (f.type, f.offset)) cs ds with
            | true, some p, some q => some (p && q)
            | _, _, _ => none) = some p → (Op.eqFields (d + 1) vs.toArray us.toArray (f :: gs)).run P w = .ok p w := by
          intro i hi hs
          cases hb : Nat.beq f.offset n
          · simp [hb] at hs
          cases hq : fieldEq i.d c e with
          | none => simp [hq] at hs
          | some q =>
            cases hr : flatEq T (n + 1) (gs.map fun f => (f.type, f.offset)) cs ds with
            | none => simp [hr] at hs
            | some r =>
              simp only [hb, hq, hr, Option.some.injEq] at hs
              exact step i q r hi hb hq (fun hc' hd' => ih (n + 1) cs ds r hr hc' hd' (fun f hf => hnm f (by simp [hf]))) hs.symm
        cases hti : T.ti f.type with
        | none => cases gs <;> cases cs <;> cases ds <;> simp [flatEq, hti] at hs
        | some i =>
          by_cases hl : gs = [] ∧ cs = [] ∧ ds = []
          · obtain ⟨rfl, rfl, rfl⟩ := hl
            simp only [List.map_cons, List.map_nil, flatEq, hti] at hs
            cases hb : Nat.beq f.offset n
            · simp [hb] at hs
            · simp only [hb] at hs
              exact step i p true hti hb hs (fun _ _ => by simp [Op.eqFields]) (by simp)
          · refine gen i hti ?_
            cases gs <;> cases cs <;> cases ds <;> first
              | exact absurd ⟨rfl, rfl, rfl⟩ hl
              | (simp only [List.map_cons, List.map_nil, flatEq, hti] at hs ⊢; exact hs)

theorem equalIn_ptr_nil (d : Nat) (t e : TypeId) (a : Addr) (h : P.underlying t = some (.pointer e)) : (Op.equalIn (d + 1) t (.pointer (some a)) (.pointer none)).run P w = .ok false w := by
  simp [Op.equalIn, run_underlying h]
theorem equalIn_slice_nil (d : Nat) (t e : TypeId) (A : Option Addr) (m c : Nat) (h : P.underlying t = some (.slice e)) : (Op.equalIn (d + 1) t (.slice A m c) (.slice none 0 0)).run P w = .ok A.isNone w := by
  cases A <;> simp [Op.equalIn, run_underlying h]
theorem binV_sound (hT : TabOk P T) {op : BinOp} {t : TypeId} {a b v : V} {x y : Value} {c : List Prop} (hs : binV T op t a b = some (c, v)) (hc : ∀ p ∈ c, p) (ha : RV C w g a x) (hb : RV C w g b y) (o1 o2 : Operand) :
    ∃ val, (do eqGuard op t o1 o2 x y; binOp op t x y : Sem Value).run P w = .ok val w ∧ RV C w g v val := by
  have guard : ∀ {x y : Value}, ((∀ cs, x ≠ .agg cs) ∧ x ≠ .nilIface) → (eqGuard op t o1 o2 x y).run P w = .ok () w := by
    intro x y hx
    unfold eqGuard
    cases op <;> simp
    all_goals
      cases x <;> first
        | exact absurd rfl hx.2
        | exact absurd rfl (hx.1 _)
        | simp
  unfold binV at hs
  split at hs
  · rename_i k m k' n
    simp only [RV] at ha hb
    obtain ⟨rfl, _⟩ := ha
    obtain ⟨rfl, _⟩ := hb
    have hg := guard (x := .int k m) (y := .int k' n) ⟨by simp, by simp⟩
    split at hs
    · obtain ⟨val, h1, h2⟩ := shiftV_sound (P := P) (C := C) (w := w) (g := g) (k' := k') (t := t) hs hc
      exact ⟨val, by simp [hg, h1], h2⟩
    · obtain ⟨val, h1, h2⟩ := shiftV_sound (P := P) (C := C) (w := w) (g := g) (k' := k') (t := t) hs hc
      exact ⟨val, by simp [hg, h1], h2⟩
    · rename_i n1 n2
      split at hs
      · rename_i hk
        subst hk
        obtain ⟨val, h1, h2⟩ := binInt_sound (P := P) (C := C) (w := w) (g := g) (t := t) hs hc ⟨n1, n2⟩
        exact ⟨val, by simp [hg, h1], h2⟩
      · simp at hs
  · rename_i l m
    simp only [RV] at ha hb
    obtain ⟨rfl, _⟩ := ha
    obtain ⟨rfl, _⟩ := hb
    have hg := guard (x := .string ⟨⟨l⟩⟩) (y := .string ⟨⟨m⟩⟩) ⟨by simp, by simp⟩
    obtain ⟨val, h1, h2⟩ := binStr_sound (P := P) (C := C) (w := w) (g := g) (t := t) hs hc
    exact ⟨val, by simp [hg, h1], h2⟩
  · rename_i cs ds
    simp only [RV] at ha hb
    obtain ⟨vs, rfl, hvs⟩ := ha
    obtain ⟨us, rfl, hus⟩ := hb
    split at hs
    · rename_i fs _ _ _ _ hti
      obtain ⟨inf, u, z, g1, g2, g3, g4, g5, g6, g7, g8, g9⟩ := ti_of hT hti
      obtain ⟨gs, rfl, hgs⟩ := und_struct g4
      simp only [eqOf, Bool.and_eq_true, Bool.not_eq_true'] at g9
      obtain ⟨⟨q1, q2⟩, q3⟩ := g9
      have hfo : P.fieldsOf t = gs := by simp [Program.fieldsOf, g2]
      have hnm : ∀ f ∈ gs.toList, f.name ≠ "_" := fun f hf => by
        have := List.all_eq_true.1 q3 f hf
        simpa using this
      have run : ∀ p, flatEq T 0 fs cs ds = some p → (Op.equalIn 10000 t (.agg vs.toArray) (.agg us.toArray)).run P w = .ok p w := fun p hp => by
        rw [run_equalIn_struct w 9999 t _ _ (by rw [hfo]; exact g2) q1, hfo]
        rw [← hgs] at hp
        exact flatEq_sound hT (d := 9998) gs.toList 0 cs ds p hp (by simpa using hvs) (by simpa using hus) hnm
      have hg := run_eqGuard_agg (P := P) w op t o1 o2 vs.toArray us.toArray q2
      split at hs
      · rename_i p hp
        simp only [Option.some.injEq, Prod.mk.injEq] at hs
        obtain ⟨rfl, rfl⟩ := hs
        exact ⟨.bool p, by simp [hg, run_eql_struct, run p hp], by simp [RV]⟩
      · rename_i p hp
        simp only [Option.some.injEq, Prod.mk.injEq] at hs
        obtain ⟨rfl, rfl⟩ := hs
        exact ⟨.bool (!p), by simp [hg, run_neq_struct, run p hp], by simp [RV]⟩
      · simp at hs
    · simp at hs
  · rename_i id col
    simp only [RV] at ha hb
    obtain ⟨_, ad, _, rfl⟩ := ha
    subst hb
    have hg := guard (x := .pointer (some (ad.add col))) (y := .pointer none) ⟨by simp, by simp⟩
    split at hs
    · rename_i e _ _ _ _ _ hti
      obtain ⟨inf, u, z, g1, g2, g3, g4, g5⟩ := ti_of hT hti
      obtain rfl := und_ptr g4
      have h1 : (Op.equal t (.pointer (some (ad.add col))) (.pointer none)).run P w = .ok false w := equalIn_ptr_nil 9999 t e _ g2
      split at hs
      · simp only [Option.some.injEq, Prod.mk.injEq] at hs
        obtain ⟨rfl, rfl⟩ := hs
        exact ⟨.bool false, by simp only [binOp]; simp [hg, h1], by simp [RV]⟩
      · simp only [Option.some.injEq, Prod.mk.injEq] at hs
        obtain ⟨rfl, rfl⟩ := hs
        exact ⟨.bool true, by simp only [binOp]; simp [hg, h1], by simp [RV]⟩
      · simp at hs
    · simp at hs
  · split at hs
    · rename_i hti
      obtain ⟨inf, u, z, g1, g2, g3, g4, g5⟩ := ti_of hT hti
      obtain rfl := und_bool g4
      split at hs
      · rename_i p q h1 h2
        simp only [Option.some.injEq, Prod.mk.injEq] at hs
        obtain ⟨rfl, rfl⟩ := hs
        have e1 := vbool_rel h1 ha
        have e2 := vbool_rel h2 hb
        subst e1; subst e2
        have hg := guard (x := .bool p) (y := .bool q) ⟨by simp, by simp⟩
        exact ⟨.bool (p == q), by simp [hg, (binOp_bools (w := w) g2 p q).1], by simp [RV]⟩
      · rename_i p q h1 h2
        simp only [Option.some.injEq, Prod.mk.injEq] at hs
        obtain ⟨rfl, rfl⟩ := hs
        have e1 := vbool_rel h1 ha
        have e2 := vbool_rel h2 hb
        subst e1; subst e2
        have hg := guard (x := .bool p) (y := .bool q) ⟨by simp, by simp⟩
        exact ⟨.bool (!(p == q)), by simp [hg, (binOp_bools (w := w) g2 p q).2], by simp [RV]⟩
      · simp at hs
    · simp at hs

theorem unV_sound {op : UnOp} {a v : V} {x : Value} {c : List Prop} (hs : unV op a = some (c, v)) (ha : RV C w g a x) :
    ∃ val, (Op.unary op x).run P w = .ok val w ∧ RV C w g v val := by
  unfold unV at hs
  split at hs
  · rename_i p
    simp only [Option.some.injEq, Prod.mk.injEq] at hs
    obtain ⟨rfl, rfl⟩ := hs
    simp only [RV] at ha
    subst ha
    cases p
    · exact ⟨.bool true, by simp [Op.unary], by simp [RV]⟩
    · exact ⟨.bool false, by simp [Op.unary], by simp [RV]⟩
  · rename_i p
    simp only [Option.some.injEq, Prod.mk.injEq] at hs
    obtain ⟨rfl, rfl⟩ := hs
    simp only [RV] at ha
    subst ha
    exact ⟨.bool (!p), by simp [Op.unary], by simp [RV]⟩
  · rename_i k n
    simp only [Option.some.injEq, Prod.mk.injEq] at hs
    obtain ⟨rfl, rfl⟩ := hs
    simp only [RV] at ha
    obtain ⟨rfl, _⟩ := ha
    exact ⟨.int k (k.wrap (0 - n)), by simp [Op.unary, Op.intArith], RV_wrap _ _⟩
  · simp at hs

theorem extremeV_sound {mx : Bool} {a b v : V} {x y : Value} {ts : Array TypeId} {ty : TypeId} (hs : extremeV mx a b = some v) (ha : RV C w g a x) (hb : RV C w g b y) :
    ∃ val, (match mx with | true => Builtin.max_ ts ty #[x, y] | false => Builtin.min_ ts ty #[x, y]).run P w = .ok val w ∧ RV C w g v val := by
  unfold extremeV at hs
  split at hs
  · rename_i k m k' n
    simp only [RV] at ha hb
    obtain ⟨rfl, ha⟩ := ha
    obtain ⟨rfl, hb⟩ := hb
    split at hs
    · rename_i hk
      subst hk
      simp only [Option.some.injEq] at hs
      subst hs
      cases mx
      · refine ⟨.int k (if n < m then n else m), by simp [Builtin.min_, Builtin.min2], ?_⟩
        simp only [RV, true_and]; split <;> assumption
      · refine ⟨.int k (if n > m then n else m), by simp [Builtin.max_, Builtin.max2], ?_⟩
        simp only [RV, true_and]; split <;> assumption
    · simp at hs
  · rename_i l m
    simp only [RV] at ha hb
    obtain ⟨rfl, ha⟩ := ha
    obtain ⟨rfl, hb⟩ := hb
    simp only [Option.some.injEq] at hs
    subst hs
    cases mx
    · refine ⟨.string ⟨⟨if sless l m || l == m then l else m⟩⟩, ?_, ?_⟩
      · cases h1 : Op.bytesLess l m <;> by_cases h2 : l = m <;> simp [Builtin.min_, Builtin.min2, Op.stringOp, asBool, h1, h2]
      · simp only [RV, true_and]; split <;> assumption
    · refine ⟨.string ⟨⟨if !(sless l m) then l else m⟩⟩, ?_, ?_⟩
      · cases hq : sless l m <;> simp [Builtin.max_, Builtin.max2, Op.stringOp, asBool, hq]
      · simp only [RV, true_and]; split <;> assumption
  · simp at hs
end
end Go.Eng

set_option linter.unusedVariables false
set_option linter.unusedSimpArgs false
namespace Go.Eng
open Go.RowKit (Below)
section
variable {C : Cx} {w w' : World} {g g' : Gh} {h : Heap} {P : Program} {T : Tab} {fresh : Nat}
def upd (f : Nat → Value) (id : Nat) (v : Value) : Nat → Value := fun k => if k = id then v else f k
def Gh.new (g : Gh) (id : Nat) (v : Value) : Gh := ⟨upd g.anch id v, g.F, fun k => g.U k ∨ k = id⟩
theorem upd_same (f : Nat → Value) (id : Nat) (v : Value) : upd f id v id = v := by simp [upd]
theorem upd_other (f : Nat → Value) (id : Nat) (v : Value) {k : Nat} (h : k ≠ id) : upd f id v k = f k := by simp [upd, h]
theorem evo_new (hU : ¬ g.U fresh) (v : Value) (hb : ∀ b, g.F b → w'.heap[b]? = w.heap[b]?) : Evo w g w' (g.new fresh v) :=
  ⟨fun b hF => ⟨hF, hb b hF⟩, fun id hi => ⟨.inl hi, upd_other _ _ _ (fun e => hU (e ▸ hi))⟩⟩

theorem QRes.one {o : Obj} {av x : Value} {v : V} (hU : ¬ g.U fresh) (hb : Below w.heap.size w w') (hF : ∀ b, g.F b → b < w.heap.size)
    (hv : RV C w' (g.new fresh av) v x) (ho : RO C w' (g.new fresh av) fresh o) (hblk : ∀ b, ablk av = some b → w.heap.size ≤ b) : QRes C w g fresh v [(fresh, o)] x w' (g.new fresh av) := by
  have e : Evo w g w' (g.new fresh av) := evo_new hU av (fun b h => hb.block b (hF b h))
  refine ⟨hb, fun b h => h, fun b h => .inl h, e.A, fun id h => ?_, hv, fun id o' h => ?_, ?_⟩
  · rcases h with h | rfl
    · exact .inl h
    · exact .inr ⟨Nat.le_refl _, by omega⟩
  · simp only [lookN] at h
    cases hq : Nat.beq fresh id
    · simp [hq] at h
    · simp only [hq, Option.some.injEq] at h
      subst h
      obtain rfl := Nat.eq_of_beq_eq_true hq
      exact ⟨⟨Nat.le_refl _, by omega⟩, .inr rfl, ho, fun b hb' => hblk b (by simpa [Gh.new, upd_same] using hb')⟩
  · intro id0 o1 id' o2 b h h' _ _ _ _
    simp only [lookN] at h h'
    cases hq : Nat.beq fresh id0 <;> simp [hq] at h
    cases hq' : Nat.beq fresh id' <;> simp [hq'] at h'
    exact (Nat.eq_of_beq_eq_true hq).symm.trans (Nat.eq_of_beq_eq_true hq')

theorem QRes.box {cs : List V} {vs : List Value} {te : TypeId} (R : RelH C h w g) (hU : ¬ g.U fresh) (hv : RVs C w g cs vs) (h1 : ∀ v ∈ vs, v.oneCell' = true) :
    QRes C w g fresh (.ptr fresh 0) [(fresh, .box cs)] (.pointer (some ⟨w.heap.size, 0, none⟩)) (w.alloc (.cells vs.toArray te)) (g.new fresh (.pointer (some ⟨w.heap.size, 0, none⟩))) := by
  have hb : Below w.heap.size w (w.alloc (.cells vs.toArray te)) := (Below.refl _ _).alloc (Nat.le_refl _) _
  refine QRes.one hU hb R.F ?_ ?_ (fun b hb => by simp [ablk] at hb; omega)
  · simp only [RV]
    exact ⟨.inr rfl, _, upd_same _ _ _, by simp [Addr.add]⟩
  · refine ⟨w.heap.size, vs, te, upd_same _ _ _, heap_alloc_new w _, RVs_mono (evo_new hU _ (fun b h => hb.block b (R.F b h))) _ _ hv, h1, .inr R.size, fun hF => ?_⟩
    have := R.F _ hF
    omega

theorem QRes.arr {te : TypeId} {e : Ty} {xs : List e.den} {x : Value} {cells : List Value} (R : RelH C h w g) (hU : ¬ g.U fresh) (hb : Below w.heap.size w w')
    (hown : w'.ownsRow w.heap.size te e.cells x xs.length cells) (hr : reps w g.F e xs cells) (h0 : 0 < e.cells) (hx : ∃ A n c, x = .slice A n c) :
    QRes C w g fresh (.own fresh) [(fresh, .arr te e xs)] x w' (g.new fresh x) := by
  have hblk : ∀ b, ablk x = some b → w.heap.size ≤ b := fun b hb' => by
    rcases hown.2 with ⟨rfl, _⟩ | ⟨gg, cap, cur, rfl, hge, _⟩
    · simp [ablk] at hb'
    · simp [ablk] at hb'; omega
  refine QRes.one hU hb R.F ?_ ?_ hblk
  · simp only [RV]
    exact ⟨.inr rfl, (upd_same _ _ _).symm, hx⟩
  · refine ⟨cells, ?_, reps_mono (fun b hF => ⟨hF, hb.block b (R.F b hF)⟩) e xs cells hr, h0, fun b hb' => ?_⟩
    · rw [show (g.new fresh x).anch fresh = x from upd_same _ _ _]
      refine ⟨hown.1, ?_⟩
      rcases hown.2 with hn | ⟨gg, cap, cur, hv, _, rest⟩
      · exact .inl hn
      · exact .inr ⟨gg, cap, cur, hv, Nat.zero_le _, rest⟩
    · rw [show (g.new fresh x).anch fresh = x from upd_same _ _ _] at hb'
      have := hblk b hb'
      refine ⟨.inr (Nat.le_trans R.size this), fun hF => ?_⟩
      have := R.F b hF
      omega

theorem zero_cell {v : Value} (h : (zeroV (zcOf v)).one = true) : RV C w g (zeroV (zcOf v)) v := by
  unfold zcOf at h ⊢
  split <;> simp [zeroV, RV] at h ⊢
  · rename_i k
    cases k <;> simp [IntKind.min, IntKind.max, IntKind.signed, IntKind.bits]
  all_goals (simp [V.one] at h)
theorem zero_cells : ∀ (vs : List Value), ((vs.map zcOf).map zeroV).all V.one = true → RVs C w g ((vs.map zcOf).map zeroV) vs
  | [], _ => by simp [RVs]
  | v :: vs, h => by
    simp only [List.map_cons, List.all_cons, Bool.and_eq_true] at h
    simp only [List.map_cons, RVs]
    exact ⟨v, vs, rfl, zero_cell h.1, zero_cells vs (by simpa using h.2)⟩

theorem foldl_set : ∀ (vs : List Value) (off k : Nat) (cells : Array Value), off + k + vs.length ≤ cells.size →
    (vs.zipIdx k).foldl (fun cs (p : Value × Nat) => cs.setIfInBounds (off + p.2) p.1) cells = (cells.toList.take (off + k) ++ vs ++ cells.toList.drop (off + k + vs.length)).toArray
  | [], off, k, cells, _ => by simp
  | v :: vs, off, k, cells, h => by
    simp only [List.zipIdx_cons, List.foldl_cons]
    rw [foldl_set vs off (k + 1) _ (by simp at h ⊢; omega)]
    congr 1
    simp only [List.length_cons] at h ⊢
    have hlt : off + k < cells.toList.length := by simp only [Array.length_toList]; omega
    rw [Array.toList_setIfInBounds, List.take_set, List.drop_set]
    rw [if_pos (by omega)]
    have ht : (cells.toList.take (off + (k + 1))).set (off + k) v = cells.toList.take (off + k) ++ [v] := by
      have hlen : (cells.toList.take (off + k)).length = off + k := by rw [List.length_take]; omega
      rw [show off + (k + 1) = (off + k) + 1 by omega, List.take_succ_eq_append_getElem hlt, List.set_append_right _ _ (by omega), hlen, Nat.sub_self]
      rfl
    rw [ht]
    simp only [List.append_assoc, List.cons_append, List.nil_append]
    rw [show off + (k + 1) + vs.length = off + k + (vs.length + 1) from by omega]

theorem setAt_len {α : Type} (cs news : List α) (off : Nat) (h : off + news.length ≤ cs.length) : (cs.take off ++ news ++ cs.drop (off + news.length)).length = cs.length := by
  simp; omega
theorem RVs_setAt {cs ns : List V} {vs us : List Value} (h1 : RVs C w g cs vs) (h2 : RVs C w g ns us) (off : Nat) : RVs C w g (setAt cs off ns) (vs.take off ++ us ++ vs.drop (off + us.length)) := by
  unfold setAt
  rw [RVs_len h2]
  exact RVs_append (RVs_append (RVs_take off h1) h2) (RVs_drop _ h1)
theorem one_setAt {vs us : List Value} (h1 : ∀ v ∈ vs, v.oneCell' = true) (h2 : ∀ v ∈ us, v.oneCell' = true) (off n : Nat) : ∀ v ∈ vs.take off ++ us ++ vs.drop n, v.oneCell' = true := by
  intro v hv
  rcases List.mem_append.1 hv with hv | hv
  · rcases List.mem_append.1 hv with hv | hv
    · exact h1 v (List.mem_of_mem_take hv)
    · exact h2 v hv
  · exact h1 v (List.mem_of_mem_drop hv)

def PartsRel (C : Cx) (w : World) (g : Gh) : List (Nat × V) → List (Nat × Value) → Prop
  | [], ys => ys = []
  | (j, v) :: r, ys => ∃ x rest, ys = (j, x) :: rest ∧ RV C w g v x ∧ PartsRel C w g r rest
theorem fillV_sound {places : Nat → Option (Nat × Nat)} : ∀ (parts : List (Nat × V)) (ys : List (Nat × Value)) (cs cs' : List V) (vs : Array Value), fillV places parts cs = some cs' → PartsRel C w g parts ys →
    RVs C w g cs vs.toList → (∀ v ∈ vs.toList, v.oneCell' = true) → ∃ us : Array Value, Instr.fill places vs ys = some us ∧ RVs C w g cs' us.toList ∧ (∀ v ∈ us.toList, v.oneCell' = true) ∧ us.size = vs.size
  | [], ys, cs, cs', vs, hs, hp, hv, h1 => by
    simp only [PartsRel] at hp
    subst hp
    simp [fillV] at hs
    subst hs
    exact ⟨vs, rfl, hv, h1, rfl⟩
  | (j, v) :: r, ys, cs, cs', vs, hs, hp, hv, h1 => by
    simp only [PartsRel] at hp
    obtain ⟨x, rest, rfl, hx, hrest⟩ := hp
    simp only [fillV] at hs
    cases hpl : places j with
    | none => simp [hpl] at hs
    | some p =>
      obtain ⟨off, size⟩ := p
      simp only [hpl] at hs
      cases hb : (Nat.beq v.cells.length size && v.cells.all V.one && Nat.ble (off + size) cs.length)
      · simp [hb] at hs
      · simp only [hb] at hs
        simp only [Bool.and_eq_true] at hb
        have e1 := Nat.eq_of_beq_eq_true hb.1.1
        have e3 := Nat.le_of_ble_eq_true hb.2
        have hc := RV_cells hx hb.1.2
        have hone := RVs_one hb.1.2 hc
        have hxl : x.cells.size = size := by have := RVs_len hc; simp at this; omega
        have hvl := RVs_len hv
        simp only [Array.length_toList] at hvl
        have hfold : x.cells.zipIdx.foldl (fun cs (p : Value × Nat) => cs.setIfInBounds (off + p.2) p.1) vs = (vs.toList.take off ++ x.cells.toList ++ vs.toList.drop (off + x.cells.toList.length)).toArray := by
          have := foldl_set x.cells.toList off 0 vs (by simp; omega)
          rw [← Array.foldl_toList, Array.toList_zipIdx]
          simpa using this
        obtain ⟨us, h2, h3, h4, h5⟩ := fillV_sound r rest _ cs' (vs.toList.take off ++ x.cells.toList ++ vs.toList.drop (off + x.cells.toList.length)).toArray hs hrest
          (by simpa using RVs_setAt hv hc off) (by simpa using one_setAt h1 hone off _)
        refine ⟨us, ?_, h3, h4, ?_⟩
        · simp only [Instr.fill, hpl]
          rw [if_neg (by simp; omega)]
          rw [← h2]
          congr 1
        · rw [h5]
          have := setAt_len vs.toList x.cells.toList off (by simp; omega)
          simpa using this

theorem partsRel_map {env : Env} {a : Act} (R : RelE C env a.tmps w g) : ∀ (ps : List (Nat × Operand)), PartsRel C w g (ps.map fun p => (p.1, rd env p.2)) (ps.map fun p => (p.1, a.eval p.2))
  | [] => by simp [PartsRel]
  | p :: ps => by simp only [List.map_cons, PartsRel]; exact ⟨_, _, rfl, rd_rel R p.2, partsRel_map R ps⟩

theorem placesT_sound (hT : TabOk P T) : ∀ (gs : List Field) (ps : List (Nat × Nat)), placesT T (gs.map fun f => (f.type, f.offset)) = some ps →
    gs.mapM (fun f => (P.info? f.type).map fun i => (f.offset, i.size)) = some ps
  | [], ps, h => by simp [placesT] at h; subst h; rfl
  | f :: gs, ps, h => by
    simp only [List.map_cons, placesT] at h
    cases hi : T.ti f.type with
    | none => simp [hi] at h
    | some i =>
      cases hr : placesT T (gs.map fun f => (f.type, f.offset)) with
      | none => simp [hi, hr] at h
      | some qs =>
        simp only [hi, hr, Option.some.injEq] at h
        subst h
        obtain ⟨inf, u, z, g1, g2, g3, g4, g5, g6⟩ := ti_of hT hi
        simp [List.mapM_cons, g1, g5, placesT_sound hT gs qs hr]

theorem buildV_sound (hT : TabOk P T) {t : TypeId} {parts : List (Nat × V)} {ys : List (Nat × Value)} {c : List Prop} {v : V} {news : Heap} (hs : buildV T t parts = some (c, v, news)) (hp : PartsRel C w g parts ys) :
    news = [] ∧ ∃ val, (Instr.build t ys.toArray).run P w = .ok val w ∧ RV C w g v val := by
  unfold buildV at hs
  cases hti : T.ti t with
  | none => simp [hti] at hs
  | some i =>
    obtain ⟨d, size, bytes, zero, row, eqk⟩ := i
    obtain ⟨inf, u, z, g1, g2, g3, g4, g5, g6, g7, g8, g9⟩ := ti_of hT hti
    cases d <;> simp only [hti] at hs
    all_goals try (simp at hs; done)
    case struct fs =>
    obtain ⟨gs, rfl, hgs⟩ := und_struct g4
    cases hpl : placesT T fs with
    | none => simp [hpl] at hs
    | some ps =>
    simp only [hpl] at hs
    split at hs
    · rename_i cs hcs
      cases hone : (zero.map zeroV).all V.one
      · simp [hone] at hs
      simp only [hone, Option.some.injEq, Prod.mk.injEq] at hs
      obtain ⟨rfl, rfl, rfl⟩ := hs
      have g7' : z.cells.toList.map zcOf = zero := g7
      rw [← g7'] at hcs hone
      have hz := zero_cells (C := C) (w := w) (g := g) z.cells.toList hone
      obtain ⟨us, h2, h3, h4, h5⟩ := fillV_sound parts ys _ cs z.cells hcs hp hz (RVs_one hone hz)
      rw [← hgs] at hpl
      have hb : P.built t ys = some us := by
        unfold Program.built
        simp only [g1, g2, g3, placesT_sound hT _ _ hpl]
        rw [← h2]
        congr 1
        funext j
        simp
      have := run_build (P := P) w t ys.toArray us (by simpa using hb)
      exact ⟨rfl, .agg us, this, by simp only [RV]; exact ⟨us.toList, by simp, h3⟩⟩
    · simp at hs

theorem toRows_sound (R : RelH C h w g) (e : Ty) : ∀ (n : Nat) (cs : List V) (xs : List e.den) (vs : List Value), toRows h e n cs = some xs → RVs C w g cs vs → reps w g.F e xs vs ∧ xs.length = n
  | 0, [], xs, vs, hs, hv => by
    simp [toRows] at hs
    subst hs
    simp only [RVs] at hv
    subst hv
    exact ⟨rfl, rfl⟩
  | 0, c :: cs, xs, vs, hs, hv => by simp [toRows] at hs
  | n + 1, cs, xs, vs, hs, hv => by
    simp only [toRows] at hs
    cases hd : toDen h false e cs with
    | none => simp [hd] at hs
    | some p =>
      obtain ⟨x, r⟩ := p
      simp only [hd] at hs
      cases hr : toRows h e n r with
      | none => simp [hr] at hs
      | some ys =>
        simp only [hr, Option.some.injEq] at hs
        subst hs
        obtain ⟨us, ts, rfl, h1, h2⟩ := toDen_sound R e cs x r vs hd hv
        obtain ⟨h3, h4⟩ := toRows_sound R e n r ys ts hr h2
        exact ⟨⟨us, ts, rfl, rep_mono (fun b hb => ⟨by simpa [Fown] using hb, rfl⟩) e x us h1, h3⟩, by simp [h4]⟩

theorem repL_len {α : Type} (l : List α) : ∀ n, (repL l n).length = n * l.length
  | 0 => by simp [repL]
  | n + 1 => by simp [repL, repL_len l n, Nat.add_mul, Nat.add_comm]
theorem repL_get {α : Type} (l : List α) : ∀ (n j : Nat), j < n * l.length → (repL l n)[j]? = l[j % l.length]?
  | 0, j, h => by simp at h
  | n + 1, j, h => by
    simp only [repL]
    by_cases hj : j < l.length
    · rw [List.getElem?_append_left hj, Nat.mod_eq_of_lt hj]
    · rw [List.getElem?_append_right (by omega), repL_get l n _ (by rw [Nat.add_mul] at h; omega)]
      congr 1
      rw [Nat.mod_eq_sub_mod (by omega : j ≥ l.length)]
theorem madeCells_eq (z : Array Value) (n : Nat) : (madeCells z (n * z.size)).toList = repL z.toList n := by
  apply List.ext_getElem?
  intro j
  by_cases hj : j < n * z.size
  · rw [repL_get _ _ _ (by simpa using hj)]
    have hz : 0 < z.size := by
      rcases Nat.eq_zero_or_pos z.size with h | h
      · rw [h] at hj; simp at hj
      · exact h
    have hm : j % z.size < z.size := Nat.mod_lt _ hz
    simp [madeCells, hj, hm]
  · rw [List.getElem?_eq_none (by simp [madeCells]; omega), List.getElem?_eq_none (by rw [repL_len]; simp; omega)]
theorem RVs_repL {cs : List V} {vs : List Value} (h : RVs C w g cs vs) : ∀ n, RVs C w g (repL cs n) (repL vs n)
  | 0 => by simp [repL, RVs]
  | n + 1 => RVs_append h (RVs_repL h n)
theorem one_repL {vs : List Value} (h : ∀ v ∈ vs, v.oneCell' = true) : ∀ n, ∀ v ∈ repL vs n, v.oneCell' = true
  | 0, v, hv => by simp [repL] at hv
  | n + 1, v, hv => by
    simp only [repL] at hv
    rcases List.mem_append.1 hv with hv | hv
    · exact h v hv
    · exact one_repL h n v hv
theorem reps_replicate {F : Nat → Prop} {e : Ty} {z : e.den} {cs : List Value} (h : rep w F e z cs) : ∀ n, reps w F e (List.replicate n z) (repL cs n)
  | 0 => rfl
  | n + 1 => ⟨cs, repL cs n, rfl, h, reps_replicate h n⟩
theorem ownsRow_new {te : TypeId} {size : Nat} (cur : Array Value) (n cap : Nat) (hc : n ≤ cap) (hm : cap ≤ maxLen) (hs : cur.size = cap * size) {w1 : World} (hg : w1.heap[w.heap.size]? = some (.cells cur te (0, 0))) :
    w1.ownsRow w.heap.size te size (.slice (some ⟨w.heap.size, 0, none⟩) n cap) n (cur.toList.take (n * size)) := by
  refine ⟨?_, .inr ⟨w.heap.size, cap, cur, rfl, Nat.le_refl _, hg, hc, hm, hs, rfl⟩⟩
  have : n * size ≤ cap * size := Nat.mul_le_mul_right _ hc
  simp; omega

theorem makeSliceV_sound (hT : TabOk P T) (R : RelH C h w g) (hf : FreshIds g fresh) {t : TypeId} {l cp v : V} {lx cx : Value} {c : List Prop} {news : Heap} (hs : makeSliceV T t l cp fresh = some (c, v, news)) (hc : ∀ p ∈ c, p)
    (hl : RV C w g l lx) (hcp : RV C w g cp cx) : ∃ val w' g', (Instr.makeSlice t lx cx).run P w = .ok val w' ∧ QRes C w g fresh v news val w' g' := by
  unfold makeSliceV at hs
  cases he : elemT T t with
  | none => simp [he] at hs
  | some p =>
    obtain ⟨te, e, bytes, zero⟩ := p
    obtain ⟨inf, z, g1, g2, g3, g4, g5, g6, g7, g8, g9⟩ := elem_of hT he
    cases l <;> simp only [he] at hs
    all_goals try (simp at hs; done)
    case i k1 n =>
    cases cp <;> simp only at hs
    all_goals try (simp at hs; done)
    case i k2 m =>
    split at hs
    · rename_i z' hone hden
      simp only [Option.some.injEq, Prod.mk.injEq] at hs
      obtain ⟨rfl, rfl, rfl⟩ := hs
      simp only [RV] at hl hcp
      obtain ⟨rfl, _⟩ := hl
      obtain ⟨rfl, _⟩ := hcp
      have c1 : 0 ≤ n := hc _ (by simp)
      have c2 : n ≤ m := hc _ (by simp)
      have c3 : m * bytes ≤ 140737488355328 := hc _ (by simp)
      have c4 : m ≤ 140737488355328 := hc _ (by simp)
      have hmk := run_make (P := P) w t te inf z g1 g2 g5 k1 k2 n m c1 c2 (by rw [g4, Int.mul_comm]; omega) (by omega)
      have R0 : RelH C [] w g := ⟨R.keep, R.size, R.os, R.tape, R.output, R.F, R.Fin, R.pin, R.lam, fun _ _ h => by simp [lookN] at h, fun _ _ _ _ _ h => by simp [lookN] at h⟩
      rw [← g6] at hden hone
      have hzc := zero_cells (C := C) (w := w) (g := g) z.cells.toList hone
      have hrep := toDen_all R0 hden hzc
      have hb : Below w.heap.size w (w.alloc (.cells (madeCells z.cells (m.toNat * inf.size)) te)) := (Below.refl _ _).alloc (Nat.le_refl _) _
      have hsz : (madeCells z.cells (m.toNat * inf.size)).size = m.toNat * e.cells := by rw [size_madeCells, g3]
      have hown := ownsRow_new (w := w) (w1 := w.alloc (.cells (madeCells z.cells (m.toNat * inf.size)) te)) (te := te) _ n.toNat m.toNat (by omega) (by simp only [maxLen]; omega) hsz (heap_alloc_new w _)
      have hcells : (madeCells z.cells (m.toNat * inf.size)).toList.take (n.toNat * e.cells) = repL z.cells.toList n.toNat := by
        rw [g3, ← g8, madeCells_eq]
        have hle : n.toNat * z.cells.size ≤ m.toNat * z.cells.size := Nat.mul_le_mul_right _ (by omega)
        apply List.ext_getElem?
        intro j
        by_cases hj : j < n.toNat * z.cells.size
        · rw [List.getElem?_take_of_lt hj, repL_get _ _ _ (by simp; omega), repL_get _ _ _ (by simpa using hj)]
        · rw [List.getElem?_eq_none (by rw [List.length_take]; omega), List.getElem?_eq_none (by rw [repL_len]; simp; omega)]
      rw [hcells] at hown
      refine ⟨_, _, _, hmk, QRes.arr (cells := repL z.cells.toList n.toNat) R (hf fresh (Nat.le_refl _) (by omega)) hb (by simpa using hown) (reps_replicate hrep _) g7 ⟨_, _, _, rfl⟩⟩
    · simp at hs

theorem run_buildSlice {t te : TypeId} {inf : TypeInfo} {z : Value} {len : Nat} {ys : List (Nat × Value)} {us : Array Value} (h1 : P.underlying t = some (.slice te)) (h2 : P.info? te = some inf) (h3 : inf.zero = some z) (hz : z.cells.size = inf.size) (h0 : 0 < inf.size)
    (hle : len * inf.size ≤ 16777216) (hfill : Instr.fill (fun i => some (i * inf.size, inf.size)) (repL z.cells.toList len).toArray ys = some us) :
    (Instr.buildSlice t len ys.toArray).run P w = .ok (.slice (some ⟨w.heap.size, 0, none⟩) len len) (w.alloc (.cells us te)) := by
  have hcells : ((Array.range (len * inf.size)).map (z.cells[· % z.cells.size]!)) = (repL z.cells.toList len).toArray := by
    have := madeCells_eq z.cells len
    rw [hz] at this
    apply Array.ext'
    simpa [madeCells] using this
  have hn : ¬ (16777216 < len * inf.size) := by omega
  by_cases hl : len = 0
  · subst hl
    simp only [repL, List.toArray] at hfill
    simp [Instr.buildSlice, run_underlying h1, sizeOf, typeInfo, h2, zeroValue, h3]
    have e0 : Array.map (fun _ => (default : Value)) (Array.range 0) = (⟨[]⟩ : Array Value) := by simp
    rw [e0, hfill]
    simp [newRow, run_newObj]
  · have hne : ¬ (len * inf.size = 0) := by
      intro h
      rcases Nat.mul_eq_zero.1 h with h | h <;> omega
    simp [Instr.buildSlice, run_underlying h1, sizeOf, typeInfo, h2, zeroValue, h3, hn, hne]
    rw [hcells]
    simp [hfill, newRow, run_newObj]

theorem buildSliceQ_sound (hT : TabOk P T) (R : RelH C h w g) (hf : FreshIds g fresh) {t : TypeId} {len : Nat} {parts : List (Nat × V)} {ys : List (Nat × Value)} {c : List Prop} {v : V} {news : Heap}
    (hs : buildSliceV T false t len parts fresh h = some (c, v, news)) (hp : PartsRel C w g parts ys) :
    ∃ val w' g', (Instr.buildSlice t len ys.toArray).run P w = .ok val w' ∧ QRes C w g fresh v news val w' g' := by
  unfold buildSliceV at hs
  cases he : elemT T t with
  | none => simp [he] at hs
  | some p =>
    obtain ⟨te, e, bytes, zero⟩ := p
    obtain ⟨inf, z, g1, g2, g3, g4, g5, g6, g7, g8, g9⟩ := elem_of hT he
    simp only [he] at hs
    split at hs
    · rename_i cs hcs hb
      simp only [Bool.and_eq_true] at hb
      have hle := Nat.le_of_ble_eq_true hb.1
      split at hs
      · rename_i xs hxs
        simp only [Option.some.injEq, Prod.mk.injEq] at hs
        obtain ⟨rfl, rfl, rfl⟩ := hs
        have hone := hb.2
        rw [← g6] at hcs hone
        have hz := zero_cells (C := C) (w := w) (g := g) z.cells.toList hone
        obtain ⟨us, h2, h3, h4, h5⟩ := fillV_sound parts ys _ cs (repL z.cells.toList len).toArray hcs hp (by simpa using RVs_repL hz len) (by simpa using one_repL (RVs_one hone hz) len)
        have hfun : (fun i => some (i * inf.size, inf.size) : Nat → Option (Nat × Nat)) = fun j => some (j * e.cells, e.cells) := by rw [g3]
        have hrun := run_buildSlice (P := P) (w := w) g1 g2 g5 (g8.trans g3.symm) (by omega) (by rw [g3]; exact hle) (by rw [hfun]; exact h2)
        obtain ⟨h6, h7⟩ := toRows_sound R e len cs xs us.toList hxs h3
        have hbel : Below w.heap.size w (w.alloc (.cells us te)) := (Below.refl _ _).alloc (Nat.le_refl _) _
        have hsz : us.size = len * e.cells := by rw [h5]; simp [repL_len, g8]
        have hlen : len ≤ 16777216 := by
          have : len * 1 ≤ len * e.cells := Nat.mul_le_mul_left _ g7
          omega
        have hown := ownsRow_new (w := w) (w1 := w.alloc (.cells us te)) (te := te) us len len (Nat.le_refl _) (by simp only [maxLen]; omega) hsz (heap_alloc_new w _)
        rw [List.take_of_length_le (by simp; omega)] at hown
        exact ⟨_, _, _, hrun, QRes.arr R (hf fresh (Nat.le_refl _) (by omega)) hbel (by rw [h7]; exact hown) h6 g7 ⟨_, _, _, rfl⟩⟩
      · simp at hs
    · simp at hs

theorem bytes_rows {F : Nat → Prop} : ∀ (xs : List Int) (cells : List Value), reps w F (.int .u8) xs cells → cells = xs.map (Value.int .u8)
  | [], _, h => by simp only [reps] at h; subst h; rfl
  | x :: xs, _, ⟨c, r, h0, h1, h2⟩ => by
    simp only [rep] at h1
    rw [h0, h1.1, bytes_rows xs r h2]
    rfl
theorem rows_bytes {F : Nat → Prop} : ∀ (xs : List Int), (∀ x ∈ xs, 0 ≤ x ∧ x ≤ 255) → reps w F (.int .u8) xs (xs.map (Value.int .u8))
  | [], _ => rfl
  | x :: xs, h => by
    refine ⟨[.int .u8 x], xs.map (Value.int .u8), rfl, ?_, rows_bytes xs fun y hy => h y (by simp [hy])⟩
    have := h x (by simp)
    simp only [rep, true_and]
    simpa [IntKind.min, IntKind.max, IntKind.signed, IntKind.bits] using this
theorem foldl_push : ∀ (xs : List Int) (s : List UInt8), xs.foldl (fun r n => r.push (UInt8.ofNat n.toNat)) (⟨⟨s⟩⟩ : ByteArray) = ⟨⟨s ++ strOfBytes xs⟩⟩
  | [], s => by simp [strOfBytes]
  | x :: xs, s => by
    simp only [List.foldl_cons]
    have : (⟨⟨s⟩⟩ : ByteArray).push (UInt8.ofNat x.toNat) = ⟨⟨s ++ [UInt8.ofNat x.toNat]⟩⟩ := by
      simp [ByteArray.push]
    rw [this, foldl_push xs]
    simp [strOfBytes]

theorem convV_sound (hT : TabOk P T) (R : RelH C h w g) {src dst : TypeId} {a v : V} {x : Value} {c : List Prop} {news : Heap} (hs : convV T src dst a h = some (c, v, news)) (hc : ∀ p ∈ c, p) (ha : RV C w g a x) :
    ∃ val w' g', (convert src dst x).run P w = .ok val w' ∧ QRes C w g fresh v news val w' g' := by
  unfold convV at hs
  cases hsi : T.ti src with
  | none => simp [hsi] at hs
  | some si =>
    cases hdi : T.ti dst with
    | none => simp [hsi, hdi] at hs
    | some di =>
      obtain ⟨inf, u, z, g1, g2, g3, g4, g5⟩ := ti_of hT hsi
      obtain ⟨inf', u', z', k1, k2, k3, k4, k5⟩ := ti_of hT hdi
      simp only [hsi, hdi] at hs
      have toStr : ∀ (te : TypeId), si.d = .slice te → di.d = .str → (match T.ti te with
          | some ⟨.int .u8, _, _, _, _, _⟩ => match viewL h true (.int .u8) a with
            | some xs => some ([], V.s (strOfBytes xs), ([] : Heap))
            | none => none
          | _ => none) = some (c, v, news) → ∃ val w' g', (convert src dst x).run P w = .ok val w' ∧ QRes C w g fresh v news val w' g' := by
        intro te hsd hdd hs
        rw [hsd] at g4
        rw [hdd] at k4
        obtain rfl := und_slice g4
        obtain rfl := und_str k4
        split at hs
        · rename_i _ _ _ _ _ hte
          obtain ⟨inf2, u2, z2, m1, m2, m3, m4, m5⟩ := ti_of hT hte
          obtain rfl := und_int m4
          split at hs
          · rename_i xs hxs
            simp only [Option.some.injEq, Prod.mk.injEq] at hs
            obtain ⟨rfl, rfl, rfl⟩ := hs
            obtain ⟨A, cap, cells, q, _⟩ := viewL_sound R hxs ha
            have hrow := bytes_rows xs cells q.rows
            have hlen : (strOfBytes xs).length ≤ maxLen := by have := q.le; have := q.max; simp [strOfBytes]; omega
            have hv : RV C w g (.s (strOfBytes xs)) (.string ⟨⟨strOfBytes xs⟩⟩) := by simp only [RV, true_and]; exact hlen
            refine ⟨_, w, g, ?_, QRes.pure hv⟩
            rw [q.val, run_convert_bytes_string w src dst te A _ _ g2 m2 k2]
            cases A with
            | none =>
              have h0 := q.nil rfl
              have h1 := q.le
              have : xs = [] := List.eq_nil_of_length_eq_zero (by omega)
              subst this
              simp only [Conv.bytesToString, strOfBytes, List.map_nil]
              rfl
            | some ad =>
              have hl := run_loadCells_list (P := P) w ad cells (q.cell ad rfl)
              have hcl : cells.length = xs.length := by rw [hrow]; simp
              rw [hcl, hrow] at hl
              rw [run_bytesToString w ad xs.length cap xs hl]
              have := foldl_push xs []
              rw [List.nil_append] at this
              exact congrArg (fun s => Result.ok (Value.string s) w) this
          · simp at hs
        · simp at hs
      cases hdd : di.d <;> simp only [hdd] at hs
      all_goals try (cases a <;> simp at hs; done)
      case int k =>
        rw [hdd] at k4
        obtain rfl := und_int k4
        cases a <;> simp only at hs
        all_goals try (simp at hs; done)
        simp only [Option.some.injEq, Prod.mk.injEq] at hs
        obtain ⟨rfl, rfl, rfl⟩ := hs
        simp only [RV] at ha
        obtain ⟨rfl, _⟩ := ha
        refine ⟨_, w, g, ?_, QRes.pure (RV_wrap k _)⟩
        cases u <;> simp [convert, run_underlying g2, run_underlying k2, Conv.intToInt]
      case str =>
        cases a
        case s l =>
          simp only at hs
          cases hsd : si.d <;> simp only [hsd] at hs
          all_goals try (simp at hs; done)
          simp only [Option.some.injEq, Prod.mk.injEq] at hs
          obtain ⟨rfl, rfl, rfl⟩ := hs
          rw [hsd] at g4
          rw [hdd] at k4
          obtain rfl := und_str g4
          obtain rfl := und_str k4
          have ha' := ha
          simp only [RV] at ha
          obtain ⟨rfl, _⟩ := ha
          exact ⟨_, w, g, by simp [convert, run_underlying g2, run_underlying k2], QRes.pure ha'⟩
        all_goals
          simp only at hs
          cases hsd : si.d <;> simp only [hsd] at hs
          all_goals try (simp at hs; done)
          exact toStr _ hsd hdd hs
      case slice te =>
        cases a <;> simp only at hs
        all_goals try (simp at hs; done)
        case s l =>
        cases hsd : si.d <;> simp only [hsd] at hs
        all_goals try (simp at hs; done)
        split at hs
        · rename_i _ _ _ _ _ _ hte
          obtain ⟨inf2, u2, z2, m1, m2, m3, m4, m5⟩ := ti_of hT hte
          obtain rfl := und_int m4
          simp only [Option.some.injEq, Prod.mk.injEq] at hs
          obtain ⟨rfl, rfl, rfl⟩ := hs
          rw [hsd] at g4
          rw [hdd] at k4
          obtain rfl := und_str g4
          obtain rfl := und_slice k4
          simp only [RV] at ha
          obtain ⟨rfl, hl⟩ := ha
          have hrun := run_bytes_of_string (P := P) w src dst te ⟨⟨l⟩⟩ g2 k2 m2
          have hsz : (⟨⟨l⟩⟩ : ByteArray).size = l.length := rfl
          rw [hsz] at hrun
          generalize hcap : grownCap w l.length 0 te = cap at hrun
          have hge : l.length ≤ cap := by rw [← hcap]; exact grownCap_ge _ _ _ _
          have hcm : cap ≤ maxLen := by rw [← hcap]; exact grownCap_le_maxLen _ _ _ _ hl
          generalize hw1 : w.drew.alloc (.cells (bytesRow ⟨⟨l⟩⟩ cap) te ((bytesRow ⟨⟨l⟩⟩ cap).size, (bytesRow ⟨⟨l⟩⟩ cap).size + 1)) = w1 at hrun
          have hb : Below w.heap.size w w1 := by rw [← hw1]; exact ((Below.refl _ _).drew).alloc (Nat.le_refl _) _
          have hblk : w1.heap[w.heap.size]? = some (.cells (bytesRow ⟨⟨l⟩⟩ cap) te ((bytesRow ⟨⟨l⟩⟩ cap).size, (bytesRow ⟨⟨l⟩⟩ cap).size + 1)) := by rw [← hw1]; exact heap_alloc_new w.drew _
          let g1' : Gh := ⟨g.anch, fun b => g.F b ∨ b = w.heap.size, g.U⟩
          have hbl : (bytesOfStr l).length = l.length := by simp [bytesOfStr]
          have hrep : rep w1 g1'.F (.slice (.int .u8)) (bytesOfStr l) [.slice (some ⟨w.heap.size, 0, none⟩) l.length cap] := by
            rw [← hbl]
            refine rep_of_rows (cells := (bytesOfStr l).map (Value.int .u8)) (rows_bytes _ fun y hy => ?_) (.inr rfl) (by rw [hbl]; exact hge) hcm fun j u hu => ?_
            · simp only [bytesOfStr, List.mem_map] at hy
              obtain ⟨b, _, rfl⟩ := hy
              have := b.toNat_lt
              generalize b.toNat = q at *
              omega
            · rw [addr_add, cell_of_row w1 _ _ _ _ _ hblk]
              simp only [bytesOfStr, List.map_map, List.getElem?_map] at hu
              have hj : j < l.length := by
                rcases Nat.lt_or_ge j l.length with h | h
                · exact h
                · rw [List.getElem?_eq_none h] at hu; simp at hu
              have := bytesRow_at ⟨⟨l⟩⟩ cap j hj
              rw [Nat.zero_add, this, ← hu, List.getElem?_eq_getElem hj]
              rfl
          refine ⟨_, w1, g1', hrun, ⟨hb, fun b h => .inl h, fun b h => ?_, fun id h => ⟨h, rfl⟩, fun id h => .inl h, by simp only [RV]; exact hrep, fun _ _ h => by simp [lookN] at h, fun _ _ _ _ _ h => by simp [lookN] at h⟩⟩
          rcases h with h | rfl
          · exact .inl h
          · refine .inr ⟨Nat.le_refl _, ?_⟩
            have := (Array.getElem?_eq_some_iff.1 hblk).1
            exact this
        · simp at hs
end
end Go.Eng
