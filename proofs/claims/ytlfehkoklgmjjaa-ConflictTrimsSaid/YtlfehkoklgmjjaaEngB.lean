import Derived.Test.YtlfehkoklgmjjaaEngA
set_option linter.unusedVariables false
set_option linter.unusedSimpArgs false
namespace Go.Eng

structure St where
  env : Env
  heap : Heap
inductive Ex where
  | normal | exit (id : Nat) | ret | goto (l : Nat)

/-! ## Names made canonical, what is dead dropped -/
def idsL (f : V → List Nat) : List V → List Nat
  | [] => []
  | v :: r => f v ++ idsL f r
def idsStep (f : V → List Nat) (v : V) : List Nat :=
  match v with
  | .own id => [id]
  | .ptr id _ => [id]
  | .ep id _ _ _ => [id]
  | .mp id => [id]
  | .vw id _ _ _ _ => [id]
  | .fn _ cs => idsL f cs
  | .agg cs => idsL f cs
  | .tup cs => idsL f cs
  | .rp cs => idsL f cs
  | _ => []
def idsV : V → List Nat := idsStep (idsStep (idsStep (idsStep fun _ => [])))
def idsVs : List V → List Nat := idsL idsV
def memN : List Nat → Nat → Bool
  | [], _ => false
  | a :: r, n => match Nat.beq a n with
    | true => true
    | false => memN r n
def addIds (h : Heap) : List Nat → List Nat → List Nat
  | acc, [] => acc
  | acc, n :: r => match memN acc n with
    | true => addIds h acc r
    | false => match lookN h n with
      | some _ => addIds h (acc ++ [n]) r
      | none => addIds h acc r
def idsObj (h : Heap) (n : Nat) : List Nat :=
  match lookN h n with
  | some (.box cs) => idsVs cs
  | _ => []
def idxN : List Nat → Nat → Option Nat
  | [], _ => none
  | a :: r, n => match Nat.beq a n with
    | true => some 0
    | false => match idxN r n with
      | some j => some (j + 1)
      | none => none
def renL (f : V → V) : List V → List V
  | [] => []
  | v :: r => f v :: renL f r
/-- The new names: the first ones keep theirs, the others are counted from a number on. -/
def nameL : Nat → Nat → List Nat → List (Nat × Nat)
  | _, _, [] => []
  | 0, b, n :: r => (n, b) :: nameL 0 (b + 1) r
  | k + 1, b, n :: r => (n, n) :: nameL k b r
def renStep (ord : List (Nat × Nat)) (f : V → V) (v : V) : V :=
  match v with
  | .own id => match lookN ord id with
    | some j => .own j
    | none => .any
  | .ptr id col => match lookN ord id with
    | some j => .ptr j col
    | none => .any
  | .ep id e r c => match lookN ord id with
    | some j => .ep j e r c
    | none => .any
  | .mp id => match lookN ord id with
    | some j => .mp j
    | none => .any
  | .vw id e lo n fl => match lookN ord id with
    | some j => .vw j e lo n fl
    | none => .any
  | .fn g cs => .fn g (renL f cs)
  | .agg cs => .agg (renL f cs)
  | .tup cs => .tup (renL f cs)
  | .rp cs => .rp (renL f cs)
  | v => v
def renV (ord : List (Nat × Nat)) : V → V := renStep ord (renStep ord (renStep ord (renStep ord fun _ => .any)))
def renVs (ord : List (Nat × Nat)) : List V → List V := renL (renV ord)
def renObj (ord : List (Nat × Nat)) : Obj → Obj
  | .box cs => .box (renVs ord cs)
  | o => o
def renHeap (ord : List (Nat × Nat)) (h : Heap) : List (Nat × Nat) → Heap
  | [] => []
  | (n, j) :: r => match lookN h n with
    | some o => (j, renObj ord o) :: renHeap ord h r
    | none => renHeap ord h r
def keepEnv (env : Env) : List Nat → Env
  | [] => []
  | t :: r => match lookN env t with
    | some v => (t, v) :: keepEnv env r
    | none => keepEnv env r
def envIds (env : Env) : List Nat := env.flatMap fun p => idsV p.2
def nodupN : List Nat → Bool
  | [] => true
  | a :: r => match memN r a with
    | true => false
    | false => nodupN r
def normEnv (ord : List (Nat × Nat)) : Env → Env
  | [] => []
  | (t, v) :: r => (t, renV ord v) :: normEnv ord r

/-! ## Written out, before anything goes on -/
def forceN (n : Nat) (k : Nat → Prop) : Prop :=
  match n with
  | 0 => k 0 | 1 => k 1 | 2 => k 2 | 3 => k 3 | 4 => k 4 | 5 => k 5 | 6 => k 6 | 7 => k 7 | 8 => k 8 | 9 => k 9
  | n + 1 => k (n + 1)
def forceL (f : V → (V → Prop) → Prop) : List V → (List V → Prop) → Prop
  | [], k => k []
  | v :: r, k => f v fun v => forceL f r fun r => k (v :: r)
def forceStep (f : V → (V → Prop) → Prop) (v : V) (k : V → Prop) : Prop :=
  match v with
  | .any => k .any
  | .bl x => match x with
    | true => k (.bl true)
    | false => k (.bl false)
  | .b x => k (.b x)
  | .i a n => k (.i a n)
  | .s l => k (.s l)
  | .sl e xs => k (.sl e xs)
  | .nil => k .nil
  | .np => k .np
  | .nf => k .nf
  | .nm => k .nm
  | .own id => forceN id fun id => k (.own id)
  | .ptr id col => forceN id fun id => forceN col fun col => k (.ptr id col)
  | .ep id e r c => forceN id fun id => forceN c fun c => k (.ep id e r c)
  | .mp id => forceN id fun id => k (.mp id)
  | .vw id e lo n fl => forceN id fun id => match fl with
    | true => k (.vw id e lo n true)
    | false => k (.vw id e lo n false)
  | .lam a b p => k (.lam a b p)
  | .fn g cs => forceL f cs fun cs => k (.fn g cs)
  | .agg cs => forceL f cs fun cs => k (.agg cs)
  | .tup cs => forceL f cs fun cs => k (.tup cs)
  | .rp cs => forceL f cs fun cs => k (.rp cs)
def forceV : V → (V → Prop) → Prop := forceStep (forceStep (forceStep (forceStep fun v k => k v)))
def forceVs : List V → (List V → Prop) → Prop := forceL forceV
def forceO : Obj → (Obj → Prop) → Prop
  | .box cs, k => forceVs cs fun cs => k (.box cs)
  | .arr te e xs, k => k (.arr te e xs)
  | .ice e xs, k => k (.ice e xs)
  | .map a b l, k => k (.map a b l)
  | .raw te e xs, k => k (.raw te e xs)
def forceH : Heap → (Heap → Prop) → Prop
  | [], k => k []
  | (n, o) :: r, k => forceN n fun n => forceO o fun o => forceH r fun r => k ((n, o) :: r)
/-- What is new, ahead of the heap. -/
def forceNews : Heap → Heap → (Heap → Prop) → Prop
  | [], h, k => k h
  | (n, o) :: r, h, k => forceN n fun n => forceO o fun o => forceNews r h fun h => k ((n, o) :: h)
def forceE : Env → (Env → Prop) → Prop
  | [], k => k []
  | (n, v) :: r, k => forceN n fun n => forceV v fun v => forceE r fun r => k ((n, v) :: r)
def forceNs : List Nat → (List Nat → Prop) → Prop
  | [], k => k []
  | n :: r, k => forceN n fun n => forceNs r fun r => k (n :: r)

/-! ## A region -/
def presN (h : Heap) : List Nat → Bool
  | [] => true
  | n :: r => match lookN h n with
    | some _ => presN h r
    | none => false
def closeK (h : Heap) : Nat → List Nat → (List Nat → Prop) → Prop
  | 0, l, k => k l
  | n + 1, l, k => forceNs (addIds h l (l.flatMap (idsObj h))) fun l' => match Nat.beq l'.length l.length with
    | true => k l
    | false => closeK h n l' k
/-- Do the pinned names lead the order? -/
def prefN : List Nat → List Nat → Bool
  | [], _ => true
  | a :: r, b :: s => match Nat.beq a b with
    | true => prefN r s
    | false => false
  | _ :: _, [] => false
/-- What keeps its name; from where on the others are counted. -/
abbrev Pins := List Nat × Nat
def allLt (b : Nat) : List Nat → Bool
  | [] => true
  | a :: r => match Nat.blt a b with
    | true => allLt b r
    | false => false
def forcePs : List (Nat × Nat) → (List (Nat × Nat) → Prop) → Prop
  | [], k => k []
  | (a, b) :: r, k => forceN a fun a => forceN b fun b => forcePs r fun r => k ((a, b) :: r)
/-- The first number that is free. -/
def frN (pins : Pins) (h : Heap) : Nat := pins.2 + (h.length - pins.1.length)
def normK (pins : Pins) (keep : List Nat) (env : Env) (h : Heap) (K : St → Prop) : Prop :=
  forceE (keepEnv env keep) fun env1 => forceNs (addIds h pins.1 (envIds env1)) fun l => closeK h 3 l fun ord => match (allLt pins.2 pins.1 && prefN pins.1 ord) && (nodupN ord && presN h ord) with
    | true => forcePs (nameL pins.1.length pins.2 ord) fun names => forceE (normEnv names env1) fun env2 => forceH (renHeap names h names) fun h2 => K ⟨env2, h2⟩
    | false => False
def splitSlot (env : Env) (d : Nat) (k : Env → Prop) : Prop :=
  match lookN env d with
  | some (.b x) => (x = true → Ev (k ((d, .bl true) :: env))) ∧ (x = false → Ev (k ((d, .bl false) :: env)))
  | _ => k env
def putK (env : Env) (dst : Option Nat) (v : V) (k : Env → Prop) : Prop :=
  match dst with
  | some d => k ((d, v) :: env)
  | none => k env
def boolEq : Bool → Bool → Bool
  | true, true => true
  | false, false => true
  | _, _ => false
def pickSlot (o : Oper) : Option Nat :=
  match o.op with
  | .pick (.tmp d) _ _ => some d
  | _ => none
def guardSlot (all : Array Oper) (j : Nat) : Option Nat :=
  match all[j]? with
  | some o => o.dst
  | none => none
/-- One operation, guard and all; 'run' is what it does. -/
def vop (all : Array Oper) (o : Oper) (env : Env) (run : Env → Prop) (skip : Env → Prop) : Prop :=
  let go (env : Env) : Prop := match pickSlot o with
    | some d => splitSlot env d run
    | none => run env
  match o.guard with
  | none => go env
  | some (j, want) => match guardSlot all j with
    | none => False
    | some d => splitSlot env d fun env => match lookN env d with
      | some (.bl y) => match boolEq y want with
        | true => go env
        | false => putK env o.dst (.tup []) skip
      | some (.tup []) => putK env o.dst (.tup []) skip
      | _ => False
/-- An append to a part from the head on: where there is room, where there is none. -/
def appendR (T : Tab) (t : TypeId) (s x : V) (fresh : Nat) (h : Heap) (K : V → Heap → Prop) : Prop :=
  match elemT T t, s with
  | some (te, e, bytes, _), .vw id e0 lo n true => match lookN h id with
    | some (.raw te' e' xs) => match Nat.beq te te', Nat.beq lo 0, castO e' e xs, decEq e0 e, rowsOf h e x with
      | true, true, some xs, isTrue _, some (c, ys) => conj c (conj [(n + ys.length) * bytes ≤ 140737488355328, n + ys.length ≤ maxLen]
          ((n + ys.length ≤ xs.length → Ev (K (.vw id e 0 (n + ys.length) true) (setObj h id (.raw te e (xs.take n ++ ys.map some ++ xs.drop (n + ys.length)))))) ∧
           (xs.length < n + ys.length → ∀ c : Nat, n + ys.length ≤ c → Ev (K (.vw fresh e 0 (n + ys.length) true) ((fresh, .raw te e (xs.take n ++ ys.map some ++ List.replicate (c - (n + ys.length)) none)) :: h)))))
      | _, _, _, _, _ => False
    | _ => False
  | _, _ => False
/-- An append of so many zero rows, where there is no room for them. -/
def appendZR (T : Tab) (t tn : TypeId) (s x : V) (fresh : Nat) (h : Heap) (K : V → Heap → Prop) : Prop :=
  match elemT T t, s, x, T.ti tn with
  | some (te, e, bytes, zero), .vw id e0 lo n true, .i _ k, some ⟨.int _, _, _, _, _, _⟩ => match lookN h id with
    | some (.raw te' e' xs) => match Nat.beq te te', Nat.beq lo 0, castO e' e xs, decEq e0 e, zeroD e zero with
      | true, true, some xs, isTrue _, some z => conj [0 < k, (xs.length : Int) < n + k, (n + k) * (bytes : Int) ≤ 140737488355328, n + k ≤ (maxLen : Int)]
          (∀ c : Nat, (n : Int) + k ≤ c → Ev (K (.vw fresh e 0 (n + k.toNat) true) ((fresh, .raw te e (xs.take n ++ List.replicate k.toNat (some z) ++ List.replicate (c - (n + k.toNat)) none)) :: h)))
      | _, _, _, _, _ => False
    | _ => False
  | _, _, _, _ => False
/-- The same, where it is a function of what was there. -/
def stepKD (T : Tab) (S : Specs) (o : Oper) (fresh : Nat) (env : Env) (h : Heap) (k : Env → Heap → Prop) : Prop :=
  match stepQ T S o fresh env h with
  | some (c, v, news) => conj c (forceV v fun v => putK env o.dst v fun env => forceNews news h fun h => k env h)
  | none => match stepW T S o fresh env h with
    | some (c, v, h') => conj c (forceV v fun v => putK env o.dst v fun env => forceH h' fun h' => k env h')
    | none => False
def thenK (o : Oper) (env : Env) (k : Env → Heap → Prop) (v : V) (h : Heap) : Prop :=
  forceV v fun v => putK env o.dst v fun env => forceH h fun h => k env h
/-- Where what is left behind is no function of what was there. -/
def stepC (T : Tab) (S : Specs) (o : Oper) (fresh : Nat) (env : Env) (h : Heap) (k : Env → Heap → Prop) : Prop :=
  match o.op with
  | .call ⟨.builtin .append, args, ts⟩ => match args.toList, ts.toList with
    | [s, x], [t, t'] => match Nat.beq t t' with
      | true => appendR T t (rd env s) (rd env x) fresh h (thenK o env k)
      | false => appendZR T t t' (rd env s) (rd env x) fresh h (thenK o env k)
    | _, _ => False
  | .call ⟨.value f, args, _⟩ => match rd env f with
    | .fn g caps => match S g with
      | some s => s.k (args.toList.map (rd env) ++ caps) h fresh (thenK o env k)
      | none => False
    | _ => False
  | _ => False
def stepK (T : Tab) (S : Specs) (o : Oper) (fresh : Nat) (env : Env) (h : Heap) (k : Env → Heap → Prop) : Prop :=
  match stepQ T S o fresh env h with
  | some (c, v, news) => conj c (forceV v fun v => putK env o.dst v fun env => forceNews news h fun h => k env h)
  | none => match stepW T S o fresh env h with
    | some (c, v, h') => conj c (forceV v fun v => putK env o.dst v fun env => forceH h' fun h' => k env h')
    | none => stepC T S o fresh env h k
/-- A slice held against nil: what it would be if it is nil. -/
def nilCmp (T : Tab) (o : Oper) (env : Env) (h : Heap) : Option (Bool × Prop) :=
  match o.op with
  | .binOp op t x (.const (.slice none 0 0)) _ => match T.ti t with
    | some ⟨.slice _, _, _, _, _, _⟩ => match op with
      | .eql => match rd env x with
        | .sl _ xs => some (true, xs.length = 0)
        | .own id => match lookN h id with
          | some (.arr _ _ xs) => some (true, xs.length = 0)
          | _ => none
        | _ => none
      | .neq => match rd env x with
        | .sl _ xs => some (false, xs.length = 0)
        | .own id => match lookN h id with
          | some (.arr _ _ xs) => some (false, xs.length = 0)
          | _ => none
        | _ => none
      | _ => none
    | _ => none
  | _ => none
def stepKN (T : Tab) (S : Specs) (o : Oper) (fresh : Nat) (env : Env) (h : Heap) (k : Env → Heap → Prop) : Prop :=
  match nilCmp T o env h with
  | some (p, q) => (q → Ev (putK env o.dst (.bl p) fun env => k env h)) ∧ Ev (putK env o.dst (.bl (match p with | true => false | false => true)) fun env => k env h)
  | none => stepK T S o fresh env h k
def vops (T : Tab) (S : Specs) (all : Array Oper) (n : Nat) (l : List Oper) : Env → Heap → (Env → Heap → Prop) → Prop :=
  List.rec (motive := fun _ => Nat → Env → Heap → (Env → Heap → Prop) → Prop) (fun _ env h K => K env h)
    (fun o _ ih n env h K => vop all o env
      (fun env => stepKN T S o n env h fun env h => forceN (n + 8) fun n' => ih n' env h K)
      (fun env => forceN (n + 8) fun n' => ih n' env h K)) l n
theorem vops_nil (T : Tab) (S : Specs) (all : Array Oper) (n : Nat) (env : Env) (h : Heap) (K : Env → Heap → Prop) : vops T S all n [] env h K = K env h := rfl
theorem vops_cons (T : Tab) (S : Specs) (all : Array Oper) (n : Nat) (o : Oper) (rest : List Oper) (env : Env) (h : Heap) (K : Env → Heap → Prop) : vops T S all n (o :: rest) env h K = vop all o env
      (fun env => stepKN T S o n env h fun env h => forceN (n + 8) fun n' => vops T S all n' rest env h K)
      (fun env => forceN (n + 8) fun n' => vops T S all n' rest env h K) := rfl

/-! ## A region that draws its order -/
/-- The edges that bind where orders mix. -/
def aft (o : Oper) : List Edge := o.after.toList.filter fun e => Region.binds .any e
/-- All that stand ahead of each operation, by its edges, as bits. -/
def befores (ops : List Oper) : List Nat → List Nat
  | acc => match ops with
    | [] => acc
    | o :: r => befores r (acc ++ [(aft o).foldl (fun s e => s ||| (2 ^ e.on ||| acc.getD e.on 0)) 0])
def operTmps (all : Array Oper) (o : Oper) : List Nat :=
  (o.op.operands.toList.filterMap fun | .tmp t => some t | _ => none) ++
  (match o.guard with
   | some (j, _) => ((guardSlot all j).map fun d => [d]).getD []
   | none => [])
/-- Is it alone: all ahead of it are ahead of it by the edges, all behind it behind it? -/
def barrier (befs : List Nat) (i : Nat) : Bool :=
  Nat.beq (befs.getD i 0) (2 ^ i - 1) && (befs.drop (i + 1)).all fun b => b.testBit i
def drawOk (ops : Array Oper) : Bool :=
  let befs := befores ops.toList []
  (ops.toList.zipIdx.all fun (o, i) => (aft o).all fun e => Nat.blt e.on i) &&
  (ops.toList.zipIdx.all fun (o, i) => match o.guard with | some (j, _) => (befs.getD i 0).testBit j | none => true) &&
  -- who writes a slot is ordered with all that name it
  ops.toList.zipIdx.all fun (o, i) => match o.dst with
    | none => true
    | some d => ops.toList.zipIdx.all fun (p, j) =>
      Nat.beq i j || (p.dst != some d && !(operTmps ops p).contains d) || (befs.getD i 0).testBit j || (befs.getD j 0).testBit i
def sub8 (m id : Nat) : Nat := (id - m) / 8
/-- What of the heap was there, or was made by those ahead. -/
def heapOf (m bef : Nat) : Heap → Heap
  | [] => []
  | (id, o) :: r => match Nat.blt id m with
    | true => (id, o) :: heapOf m bef r
    | false => match bef.testBit (sub8 m id) with
      | true => (id, o) :: heapOf m bef r
      | false => heapOf m bef r
def newsIn (n : Nat) : Heap → Bool
  | [] => true
  | (id, _) :: r => match Nat.ble n id with
    | true => match Nat.blt id (n + 8) with
      | true => newsIn n r
      | false => false
    | false => false
def idsLt (n : Nat) : Heap → Bool
  | [] => true
  | (id, _) :: r => match Nat.blt id n with
    | true => idsLt n r
    | false => false
def stepKQ (T : Tab) (S : Specs) (o : Oper) (fresh : Nat) (envr env : Env) (hr h : Heap) (k : Env → Heap → Prop) : Prop :=
  match stepQ T S o fresh envr hr with
  | some (c, v, news) => match newsIn fresh news with
    | true => conj c (forceV v fun v => putK env o.dst v fun env => forceNews news h fun h => k env h)
    | false => False
  | none => False
/-- An append to a slice that one of this region's operations made: it takes the place of that one's. -/
def ownCells : List V → List Nat
  | [] => []
  | .own id :: r => id :: ownCells r
  | _ :: r => ownCells r
def eatI (o : Oper) (env : Env) : Option Nat :=
  match o.op with
  | .call ⟨.builtin .append, args, _⟩ => match args.toList with
    | s :: _ => match rd env s with
      | .own id => some id
      | _ => none
    | _ => none
  | .buildSlice _ _ parts => match ownCells (parts.toList.flatMap fun p => (rd env p.2).cells) with
    | [id] => some id
    | _ => none
  | _ => none
/-- The operation that made it. -/
def eatC (o : Oper) (m : Nat) (env : Env) : Option Nat :=
  match eatI o env with
  | some id => match Nat.ble m id with
    | true => some (sub8 m id)
    | false => none
  | none => none
/-- All ahead in the text that could see it are ahead by the edges. -/
def eatOk (befs : List Nat) (i c : Nat) : Bool :=
  (befs.getD i 0).testBit c && (befs.take i).zipIdx.all fun (b, j) => !b.testBit c || (befs.getD i 0).testBit j
def stepE (T : Tab) (S : Specs) (o : Oper) (fresh : Nat) (env : Env) (h : Heap) : Option (List Prop × V × Obj) :=
  match eatI o env with
  | none => none
  | some id => match lookN h id with
    | none => none
    | some _ => match stepW1 T S o fresh env h with
      | some (c, v, (f, ob) :: _) => match Nat.beq f fresh with
        | true => some (c, v, ob)
        | false => none
      | _ => none
def less (bef dead : Nat) : Nat := bef ^^^ (bef &&& dead)
def vdraw1 (T : Tab) (S : Specs) (all : Array Oper) (befs bars : List Nat) (m : Nat) (o : Oper) (ih : Nat → Nat → Env → Heap → (Env → Heap → Prop) → Prop) (i dead : Nat) (env : Env) (h : Heap) (K : Env → Heap → Prop) : Prop :=
  vop all o env
      (fun env => match memN bars i with
        | true => forceH (heapOf m (less (2 ^ i - 1) dead) h) fun h => stepKD T S o (m + 8 * i) env h fun env h => forceN (i + 1) fun i' => match idsLt (m + 8 * i') h with
          | true => ih i' dead env h K
          | false => False
        | false => forceH (heapOf m (less (befs.getD i 0) dead) h) fun hr => match eatC o m (keepEnv env (operTmps all o)) with
          | some c => match eatOk befs i c with
            | true => match stepE T S o (m + 8 * i) (keepEnv env (operTmps all o)) hr with
              | some (cs, v, ob) => conj cs (forceV v fun v => putK env o.dst v fun env => forceNews [(m + 8 * i, ob)] h fun h => forceN (i + 1) fun i' => forceN (dead ||| 2 ^ c) fun dead => ih i' dead env h K)
              | none => False
            | false => False
          | none => stepKQ T S o (m + 8 * i) (keepEnv env (operTmps all o)) env hr h fun env h => forceN (i + 1) fun i' => ih i' dead env h K)
      (fun env => forceN (i + 1) fun i' => ih i' dead env h K)
def vdraw (T : Tab) (S : Specs) (all : Array Oper) (befs bars : List Nat) (m : Nat) (i dead : Nat) (l : List Oper) : Env → Heap → (Env → Heap → Prop) → Prop :=
  List.rec (motive := fun _ => Nat → Nat → Env → Heap → (Env → Heap → Prop) → Prop) (fun i dead env h K => forceH (heapOf m (less (2 ^ i - 1) dead) h) fun h => K env h)
    (fun o _ ih i dead env h K => vdraw1 T S all befs bars m o ih i dead env h K) l i dead
theorem vdraw_nil (T : Tab) (S : Specs) (all : Array Oper) (befs bars : List Nat) (m i dead : Nat) (env : Env) (h : Heap) (K : Env → Heap → Prop) : vdraw T S all befs bars m i dead [] env h K = forceH (heapOf m (less (2 ^ i - 1) dead) h) fun h => K env h := rfl
theorem vdraw_cons (T : Tab) (S : Specs) (all : Array Oper) (befs bars : List Nat) (m i dead : Nat) (o : Oper) (rest : List Oper) (env : Env) (h : Heap) (K : Env → Heap → Prop) : vdraw T S all befs bars m i dead (o :: rest) env h K =
  vdraw1 T S all befs bars m o (fun i dead => vdraw T S all befs bars m i dead rest) i dead env h K := rfl

/-- The first of the last operations that are all alone. -/
def tailN (bars : List Nat) : Nat → Nat
  | 0 => 0
  | n + 1 => match memN bars n with
    | true => tailN bars n
    | false => n + 1
def belowL (n : Nat) : List Nat → List Nat
  | [] => []
  | a :: r => match Nat.blt a n with
    | true => a :: belowL n r
    | false => belowL n r
def preOps (ops : Array Oper) (n : Nat) : Array Oper := (ops.toList.take n).toArray
/-- The order's table is the region's, and those that are told as alone are. -/
def drawOkP (ops : Array Oper) (befs bars : List Nat) : Bool :=
  drawOk ops && (decide (befores ops.toList [] = befs) && bars.all fun b => barrier befs b)
def drawOk2 (ops : Array Oper) (befs bars : List Nat) : Bool :=
  drawOkP ops befs bars && drawOkP (preOps ops (tailN bars ops.size)) (befs.take (tailN bars ops.size)) (belowL (tailN bars ops.size) bars)
def vregion (T : Tab) (S : Specs) (pins : Pins) (keep befs bars : List Nat) (ops : Array Oper) (draw : Bool) (env : Env) (h : Heap) (K : St → Prop) : Prop :=
  match draw with
  | false => forceN (frN pins h) fun m => vops T S ops m ops.toList env h fun env h => normK pins keep env h K
  | true => Leaf (drawOk2 ops befs bars = true) ∧ Ev (forceN (frN pins h) fun m => forceN (tailN bars ops.size) fun n =>
      vdraw T S (preOps ops n) (befs.take n) (belowL n bars) m 0 0 (preOps ops n).toList env h fun env h => forceN (m + 8 * n) fun m' => vops T S ops m' (ops.toList.drop n) env h fun env h => normK pins keep env h K)
def pinsOf (keep : List (Nat × List Nat)) : Pins :=
  match lookN keep 3000000 with
  | some l => match lookN keep 3000001 with
    | some (b :: _) => (l, b)
    | _ => (l, l.length)
  | none => ([], 0)
def getN (keep : List (Nat × List Nat)) (id : Nat) : List Nat :=
  match lookN keep id with
  | some l => l
  | none => []

/-! ## A state told less -/
/-- Where a value lies: in a slot, in a variable's cell. -/
inductive WP where
  | slot (t : Nat) | cell (id j : Nat)
/-- How it is told less: nil as an own slice without elements, or as data; a bool that is known as one that is not; an own slice as data. -/
inductive WK where
  | nil (te : TypeId) (e : Ty) | sl (e : Ty) | b | frz
def weakV (b : Pins) (k : WK) (v : V) (h : Heap) : Option (V × Heap) :=
  match k, v with
  | .nil te e, .nil => match Nat.ble b.1.length h.length with
    | true => some (.own (frN b h), (frN b h, .arr te e []) :: h)
    | false => none
  | .sl e, .nil => some (.sl e [], h)
  | .b, .bl x => some (.b x, h)
  | .frz, .own id => match lookN h id with
    | some (.arr _ e xs) => some (.sl e xs, setObj h id (.ice e xs))
    | _ => none
  | _, _ => none
def weak1 (b : Pins) (p : WP) (k : WK) (st : St) : Option St :=
  match p with
  | .slot t => match lookN st.env t with
    | some v => match weakV b k v st.heap with
      | some (v', h') => some ⟨(t, v') :: st.env, h'⟩
      | none => none
    | none => none
  | .cell id j => match lookN st.heap id with
    | some (.box cs) => match cs[j]? with
      | some v => match weakV b k v st.heap with
        | some (v', h') => some ⟨st.env, setObj h' id (.box (setAt cs j [v']))⟩
        | none => none
      | none => none
    | _ => none
def weakSt (b : Pins) : List (WP × WK) → St → Option St
  | [], st => some st
  | (p, k) :: r, st => match weak1 b p k st with
    | some st' => weakSt b r st'
    | none => none
def keysN : Env → List Nat
  | [] => []
  | (k, _) :: r => k :: keysN r
def weakK (pins : Pins) (l : List (WP × WK)) (st : St) (K : St → Prop) : Prop :=
  match weakSt pins l st with
  | some st1 => normK pins (keysN st.env) st1.env st1.heap K
  | none => False

/-! ## A body -/
@[irreducible] def LoopVC (pins : Pins) (round : St → (Ex → St → Prop) → Prop) (st : St) (K : Ex → St → Prop) : Prop :=
  ∃ (α : Type) (f : α → St) (inv : α → Prop) (μ : α → Nat) (a0 : α), (st = f a0 ∨ ∃ l, weakK pins l st (fun s => s = f a0)) ∧ inv a0 ∧
    ∀ a, inv a → round (f a) (fun e s => match e with
      | .normal => Leaf (∃ a', s = f a' ∧ inv a' ∧ μ a' < μ a)
      | .exit id => K (.exit id) s
      | .ret => K .ret s
      | .goto l => K (.goto l) s)

abbrev VCf := St → (Ex → St → Prop) → Prop
def vcRegion (T : Tab) (S : Specs) (keep : List (Nat × List Nat)) (id : Nat) (ops : Array Oper) (draw : Bool) (st : St) (K : Ex → St → Prop) : Prop :=
  match lookN keep id with
    | some k => match st with
      | ⟨env, h⟩ => vregion T S (pinsOf keep) k (getN keep (id + 1000000)) (getN keep (id + 2000000)) ops draw env h (K .normal)
    | none => False
def vcSeq (x y : VCf) (st : St) (K : Ex → St → Prop) : Prop :=
  x st fun e st => match e with
    | .normal => y st K
    | .exit id => K (.exit id) st
    | .ret => K .ret st
    | .goto l => K (.goto l) st
def vcCond (c : Operand) (x y : VCf) (st : St) (K : Ex → St → Prop) : Prop :=
  match c with
  | .tmp d => match lookN st.env d with
    | some (.bl true) => x st K
    | some (.bl false) => y st K
    | some (.b c) => (c = true → Ev (x st K)) ∧ (c = false → Ev (y st K))
    | _ => False
  | _ => False
def vcBlock (id : Nat) (x : VCf) (st : St) (K : Ex → St → Prop) : Prop :=
  x st fun e st => match e with
    | .exit id' => match Nat.beq id' id with
      | true => K .normal st
      | false => K (.exit id') st
    | .normal => K .normal st
    | .ret => K .ret st
    | .goto l => K (.goto l) st
def vcScope (x : VCf) (st : St) (K : Ex → St → Prop) : Prop :=
  x st fun e st => match e with
    | .normal => K .normal st
    | .exit id => K (.exit id) st
    | .ret => K .ret st
    | .goto _ => False
def vc (T : Tab) (S : Specs) (keep : List (Nat × List Nat)) (c : Code) : VCf :=
  Code.rec (motive := fun _ => VCf) (fun st K => K .normal st) (fun id ops draw => vcRegion T S keep id ops draw) (fun _ _ x y => vcSeq x y) (fun c _ _ x y => vcCond c x y)
    (fun id _ x => vcBlock id x) (fun _ x st K => LoopVC (pinsOf keep) x st K) (fun _ _ _ _ _ _ _ _ => False) (fun id st K => K (.exit id) st) (fun _ x => vcScope x) (fun _ st K => K .normal st) (fun _ _ _ => False) (fun st K => K .ret st) (fun _ _ _ => False) c

section
variable (T : Tab) (S : Specs) (keep : List (Nat × List Nat)) (st : St) (K : Ex → St → Prop)
theorem vc_region (id : Nat) (ops : Array Oper) (draw : Bool) : vc T S keep (.region id ops draw) st K = vcRegion T S keep id ops draw st K := rfl
theorem vc_seq (a b : Code) : vc T S keep (.seq a b) st K = vcSeq (vc T S keep a) (vc T S keep b) st K := rfl
theorem vc_cond (c : Operand) (a b : Code) : vc T S keep (.cond c a b) st K = vcCond c (vc T S keep a) (vc T S keep b) st K := rfl
theorem vc_block (id : Nat) (a : Code) : vc T S keep (.block id a) st K = vcBlock id (vc T S keep a) st K := rfl
theorem vc_loop (a : Code) : vc T S keep (.loop a) st K = LoopVC (pinsOf keep) (vc T S keep a) st K := rfl
theorem vc_scope (a : Code) : vc T S keep (.scope a) st K = vcScope (vc T S keep a) st K := rfl
end

/-! ## A function -/
def resV1 (T : Tab) (st : St) : ResultVar → Option V
  | .tmp t => lookN st.env t
  | .cell a t => match lookN st.env a with
    | some p => match loadV T t p st.heap with
      | some ([], v, _) => some v
      | _ => none
    | none => none
def resVs (T : Tab) (st : St) : List ResultVar → Option (List V)
  | [] => some []
  | r :: rs => match resV1 T st r, resVs T st rs with
    | some v, some vs => some (v :: vs)
    | _, _ => none
def paramEnv : Nat → List V → Env
  | _, [] => []
  | i, v :: r => (i, v) :: paramEnv (i + 1) r
def vfun (T : Tab) (S : Specs) (keep : List (Nat × List Nat)) (fn : Func) (args : List V) (h : Heap) (Post : V → Heap → Prop) : Prop :=
  match fn.body with
  | none => False
  | some c => vc T S keep c ⟨paramEnv 0 args, h⟩ fun e st =>
    let fin : Prop := match resVs T st fn.results.toList with
      | none => False
      | some [v] => forceV v fun v => Leaf (Post v st.heap)
      | some vs => forceVs vs fun vs => Leaf (Post (.tup vs) st.heap)
    match e with
    | .normal => fin
    | .ret => fin
    | _ => False

/-! ## A body in place of a call -/
def keysH : Heap → List Nat
  | [] => []
  | (k, _) :: r => k :: keysH r
def idNames : List Nat → List (Nat × Nat)
  | [] => []
  | n :: r => (n, n) :: idNames r
/-- All that is there was there, or is new. -/
def okKeys (ks : List Nat) (fresh : Nat) : List Nat → Bool
  | [] => true
  | k :: r => match memN ks k with
    | true => okKeys ks fresh r
    | false => match Nat.ble fresh k && Nat.blt k (fresh + 7) with
      | true => okKeys ks fresh r
      | false => false
def exitK (ks : List Nat) (fresh : Nat) (h : Heap) (v : V) (K : V → Heap → Prop) : Prop :=
  forceNs (keysH h) fun ks' => match okKeys ks fresh ks' && nodupN ks' with
    | true => forceV (renV (idNames ks') v) fun v => forceH (renHeap (idNames ks') h (idNames ks')) fun h => K v h
    | false => False
/-- The callee's body, run in the caller's heap; what was there keeps its names. -/
def inlK (T : Tab) (S : Specs) (keep : List (Nat × List Nat)) (fn : Func) (args : List V) (h : Heap) (fresh : Nat) (K : V → Heap → Prop) : Prop :=
  match Nat.ble args.length fn.ntmps with
  | true => match fn.body with
    | none => False
    | some c => forceNs (keysH h) fun ks => match allLt fresh ks && nodupN ks with
      | false => False
      | true => forceVs (renVs (idNames ks) args) fun args => forceH (renHeap (idNames ks) h (idNames ks)) fun h =>
        vc T S ((3000000, ks) :: (3000001, [fresh]) :: keep) c ⟨paramEnv 0 args, h⟩ fun e st =>
          let fin : Prop := match resVs T st fn.results.toList with
            | none => False
            | some [v] => exitK ks fresh st.heap v K
            | some vs => exitK ks fresh st.heap (.tup vs) K
          match e with
          | .normal => fin
          | .ret => fin
          | _ => False
  | false => False
def inl (T : Tab) (S : Specs) (keep : List (Nat × List Nat)) (fn : Func) : Spec := ⟨fun _ _ _ => none, fun _ _ _ => none, inlK T S keep fn⟩

end Go.Eng
