/-
  THE ABSTRACT MACHINE: pure values, a lean IR of Go code, a deterministic interpreter. No program, no world. (Definitions alone.)
-/
import Derived.Calls
set_option linter.all false
namespace Go.Abs

/-- What a slice value may do when it is appended to: nothing is known of its room; it has none; block 'b' holds its room. -/
inductive Perm where
  | no | full | own (b : Nat)
  deriving DecidableEq, Inhabited

inductive V where
  | int (k : IntKind) (n : Int)
  | bool (b : Bool)
  | str (s : List UInt8)
  | nilp
  | ref (b off : Nat)
  | pim (cs : List V)
  | list (p : Perm) (es : List (List V))
  | buf (b off sz n : Nat)
  | mapr (b : Nat)
  | nilm
  | fn (f : Nat) (cap : List V)
  | nilf
  | agg (cs : List V)
  | tup (vs : List V)
  | undef
  deriving Inhabited

/-- What a slot of a frame holds: a value; a variable of the frame's own (its cells); the address of a cell of such a variable. -/
inductive Slot where
  | undef
  | val (v : V)
  | var (cs : List V)
  | lref (t off : Nat)
  deriving Inhabited

/-- A block of memory: cells; how many elements have been appended (the room of a slice that grows); a map. -/
inductive Blk where
  | cells (cs : List V)
  | perm (sz n : Nat)
  | map (es : List (V × V))
  deriving Inhabited

inductive Opd where
  | t (i : Nat)
  | k (v : V)
  deriving Inhabited

/-- Of which kind a cell is that can be held against another one. -/
inductive CK where
  | i | b | s
  deriving DecidableEq, Inhabited

/-- What is held against each other: bools, pointers, structs and arrays (the kinds of their cells), maps and nil. -/
inductive EqT where
  | bool | ptr | agg (ks : List CK) | map
  deriving Inhabited

/-- What has a length. -/
inductive LK where
  | str | sl | mp
  deriving DecidableEq, Inhabited

/-- What the keys of a map are. -/
inductive KT where
  | one (k : CK)
  | agg (ks : List CK)
  deriving Inhabited

inductive IOp where
  | mov (x : Opd)
  | pick (c a b : Opd)
  | allocV (zero : List V)
  | boxV (x : Opd)
  | allocH (zero : List V)
  | boxH (x : Opd)
  | newPerm (sz : Nat)
  | load (agg : Bool) (n : Nat) (x : Opd)
  | store (n : Nat) (x v : Opd)
  | faddr (off : Nat) (x : Opd)
  | field (agg : Bool) (off n : Nat) (x : Opd)
  | iaddrA (len sz : Nat) (x i : Opd)
  | iaddrS (sz : Nat) (x i : Opd)
  | idxA (agg : Bool) (len sz : Nat) (x i : Opd)
  | idxS (x i : Opd)
  | build (zero : List V) (parts : List (Nat × Nat × Opd))
  | buildS (mu : Bool) (sz len : Nat) (zero : List V) (parts : List (Nat × Nat × Opd))
  | bin (op : BinOp) (x y : Opd)
  | eq (neg : Bool) (ty : EqT) (x y : Opd)
  | un (op : UnOp) (x : Opd)
  | conv (k : IntKind) (x : Opd)
  | nilchk (x : Opd)
  | extract (i : Nat) (x : Opd)
  | len (k : LK) (x : Opd)
  | append (md : Nat) (sz : Nat) (x y : Opd)
  | mkfn (f : Nat) (caps : List Opd)
  | call (f : Nat) (args : List Opd)
  | callv (x : Opd) (args : List Opd)
  | sliceStr (x : Opd) (lo hi : Option Opd)
  | sliceL (sz : Nat) (x : Opd) (lo hi mx : Option Opd)
  | sliceA (len sz : Nat) (x : Opd) (lo hi : Option Opd)
  | s2a (len sz : Nat) (x : Opd)
  | mkslice (sz : Nat) (zero : List V) (len : Opd)
  | mkmap
  | lookup (ks : KT) (ok : Bool) (zero : V) (x i : Opd)
  | mapupd (ks : KT) (x k v : Opd)
  | mapdel (ks : KT) (x k : Opd)
  | maxmin (mx : Bool) (xs : List Opd)
  | strOf (x : Opd)
  deriving Inhabited

structure IOper where
  dst : Option Nat
  guard : Option (Nat × Bool)
  aid : Nat
  maskT : List Nat
  maskA : List Nat
  op : IOp
  deriving Inhabited

inductive ICode where
  | skip
  | reg (draw : Bool) (nalloc : Nat) (ops : List IOper)
  | seq (a b : ICode)
  | cond (c : Opd) (a b : ICode)
  | block (id : Nat) (body : ICode)
  | loop (live : List Nat) (body : ICode)
  | lim (live : List Nat) (body : ICode)
  | exit (id : Nat)
  | ret
  deriving Inhabited

inductive Ex where
  | normal | exit (id : Nat) | ret
  deriving DecidableEq, Inhabited

inductive IRes where
  | tmp (t : Nat)
  | cell (agg : Bool) (n t : Nat)
  deriving Inhabited

structure IFunc where
  mode : Nat
  body : ICode
  results : List IRes
  deriving Inhabited

structure St where
  E : Nat → Slot
  H : Nat → Option Blk
  next : Nat
  floor : Nat

/-- The part of the state that a call sees. -/
structure HS where
  H : Nat → Option Blk
  next : Nat
  floor : Nat

def upd {α : Type} (f : Nat → α) (i : Nat) (x : α) : Nat → α := fun j => if j = i then x else f j

def Opd.eval (E : Nat → Slot) : Opd → Option V
  | .t i => match E i with
    | .val v => some v
    | _ => none
  | .k v => some v

def Opd.evals (E : Nat → Slot) : List Opd → Option (List V)
  | [] => some []
  | x :: xs => (x.eval E).bind fun v => (Opd.evals E xs).bind fun vs => some (v :: vs)

def V.cells : V → List V
  | .agg cs => cs
  | v => [v]

def V.one : V → Bool
  | .agg _ | .tup _ | .undef => false
  | _ => true

def V.int? : V → Option Int
  | .int _ n => some n
  | _ => none

def V.bool? : V → Option Bool
  | .bool b => some b
  | _ => none

/-- n cells from 'off' on. -/
def getCells (cs : List V) (off n : Nat) : Option (List V) :=
  if off + n ≤ cs.length then some ((cs.drop off).take n) else none

def setCells (cs : List V) (off : Nat) (new : List V) : Option (List V) :=
  if off + new.length ≤ cs.length then some (cs.take off ++ new ++ cs.drop (off + new.length)) else none

def asVal (agg : Bool) : List V → Option V
  | [v] => some (if agg then .agg [v] else v)
  | cs => if agg then some (.agg cs) else none

def cmpInt (op : BinOp) (a b : Int) : Option Bool :=
  match op with
  | .eql => some (decide (a = b))
  | .neq => some (!decide (a = b))
  | .lss => some (decide (a < b))
  | .leq => some (decide (a ≤ b))
  | .gtr => some (decide (b < a))
  | .geq => some (decide (b ≤ a))
  | _ => none

def arith (op : BinOp) (k : IntKind) (a b : Int) : Option Int :=
  match op with
  | .add => some (k.wrap (a + b))
  | .sub => some (k.wrap (a - b))
  | .mul => some (k.wrap (a * b))
  | .quo => if b = 0 then none else some (k.wrap (a.tdiv b))
  | .rem => if b = 0 then none else some (a.tmod b)
  | .and => some (k.wrap (BitVec.ofInt k.bits a &&& BitVec.ofInt k.bits b).toNat)
  | .or => some (k.wrap (BitVec.ofInt k.bits a ||| BitVec.ofInt k.bits b).toNat)
  | .xor => some (k.wrap (BitVec.ofInt k.bits a ^^^ BitVec.ofInt k.bits b).toNat)
  | _ => none

def eqK : CK → V → V → Option Bool
  | .i, .int k a, .int k' b => if k = k' then some (decide (a = b)) else none
  | .b, .bool a, .bool b => some (decide (a = b))
  | .s, .str a, .str b => some (decide (a = b))
  | _, _, _ => none

def eqCells : List CK → List V → List V → Option Bool
  | [], [], [] => some true
  | k :: ks, a :: as, b :: bs => (eqK k a b).bind fun x => (eqCells ks as bs).bind fun y => some (x && y)
  | _, _, _ => none

def cmpStr (op : BinOp) (a b : List UInt8) : Option V :=
  match op with
  | .add => if a.length + b.length ≤ 4294967296 then some (.str (a ++ b)) else none
  | .eql => some (.bool (decide (a = b)))
  | .neq => some (.bool (!decide (a = b)))
  | .lss => some (.bool (Op.bytesLess a b))
  | .leq => some (.bool (Op.bytesLess a b || decide (a = b)))
  | .gtr => some (.bool (!(Op.bytesLess a b || decide (a = b))))
  | .geq => some (.bool (!Op.bytesLess a b))
  | _ => none

def eqPtr (H : Nat → Option Blk) : V → V → Option Bool
  | .nilp, .nilp => some true
  | .nilp, .ref _ _ | .ref _ _, .nilp | .nilp, .pim _ | .pim _, .nilp => some false
  | .ref b o, .ref b' o' =>
    if b = b' then some (decide (o = o'))
    else match H b, H b' with
      | some (.cells _), some (.cells _) => some false
      | _, _ => none
  | _, _ => none

def eqV (H : Nat → Option Blk) (ty : EqT) (x y : V) : Option Bool :=
  match ty with
  | .bool => eqK .b x y
  | .ptr => eqPtr H x y
  | .agg ks => match x, y with
    | .agg as, .agg bs => eqCells ks as bs
    | _, _ => none
  | .map => match x, y with
    | .nilm, .nilm => some true
    | .nilm, .mapr _ | .mapr _, .nilm => some false
    | _, _ => none

def binV (op : BinOp) (x y : V) : Option V :=
  match x, y with
  | .int k a, .int yk b =>
    match op with
    | .shl => if b < 0 then none else some (.int k (k.wrap (a * 2 ^ (min b.toNat k.bits))))
    | .shr => if b < 0 then none else some (.int k (a.fdiv (2 ^ (min b.toNat k.bits))))
    | _ =>
      if k = yk then
        match cmpInt op a b with
        | some r => some (.bool r)
        | none => (arith op k a b).bind fun n => some (.int k n)
      else none
  | .str a, .str b => cmpStr op a b
  | _, _ => none

def unV (op : UnOp) (x : V) : Option V :=
  match op, x with
  | .neg, .int k n => some (.int k (k.wrap (0 - n)))
  | .not, .bool b => some (.bool (!b))
  | _, _ => none

/-- lays parts into the cells of a zero value -/
def fillV : List V → List (Nat × Nat × V) → Option (List V)
  | cs, [] => some cs
  | cs, (off, n, v) :: rest => if v.cells.length = n then (setCells cs off v.cells).bind fun cs' => fillV cs' rest else none

def evalParts (E : Nat → Slot) : List (Nat × Nat × Opd) → Option (List (Nat × Nat × V))
  | [] => some []
  | (off, n, x) :: rest => (x.eval E).bind fun v => (evalParts E rest).bind fun vs => some ((off, n, v) :: vs)

/-- a row of cells as elements of a size -/
def chunks (sz : Nat) : Nat → List V → List (List V)
  | 0, _ => []
  | n + 1, cs => cs.take sz :: chunks sz n (cs.drop sz)

/-- the elements of a slice are of one size: the first one tells -/
def headLen (sz : Nat) : List (List V) → Bool
  | [] => true
  | e :: _ => e.length == sz


/-- What is known of a slice's room outside. -/
def sealP (floor : Nat) : Perm → Perm
  | .own b => if b < floor then .own b else .no
  | _ => .no

mutual
/-- A value as it leaves a call that keeps nothing: nothing in it leads to a block from 'floor' on; a slice that the call grew loses its room; a slice over a block of the call's own becomes what it holds ('cv'). -/
def sealV (floor : Nat) (cv : Nat → Nat → Nat → Nat → Option (List (List V))) : V → Option V
  | .int k n => some (.int k n)
  | .bool b => some (.bool b)
  | .str s => some (.str s)
  | .nilp => some .nilp
  | .ref b o => if b < floor then some (.ref b o) else none
  | .pim cs => (sealL floor cv cs).bind fun cs' => some (.pim cs')
  | .list p es =>
    (sealLL floor cv es).bind fun es' =>
      some (.list (sealP floor p) es')
  | .buf b o sz n => if b < floor then some (.buf b o sz n) else (cv b o sz n).bind fun es => some (.list .no es)
  | .mapr b => if b < floor then some (.mapr b) else none
  | .nilm => some .nilm
  | .fn f cap => (sealL floor cv cap).bind fun cap' => some (.fn f cap')
  | .nilf => some .nilf
  | .agg cs => (sealL floor cv cs).bind fun cs' => some (.agg cs')
  | .tup vs => (sealL floor cv vs).bind fun vs' => some (.tup vs')
  | .undef => some .undef
def sealL (floor : Nat) (cv : Nat → Nat → Nat → Nat → Option (List (List V))) : List V → Option (List V)
  | [] => some []
  | v :: vs => (sealV floor cv v).bind fun v' => (sealL floor cv vs).bind fun vs' => some (v' :: vs')
def sealLL (floor : Nat) (cv : Nat → Nat → Nat → Nat → Option (List (List V))) : List (List V) → Option (List (List V))
  | [] => some []
  | v :: vs => (sealL floor cv v).bind fun v' => (sealLL floor cv vs).bind fun vs' => some (v' :: vs')
end

def cv0 : Nat → Nat → Nat → Nat → Option (List (List V)) := fun _ _ _ _ => none
def cvH (floor : Nat) (H : Nat → Option Blk) : Nat → Nat → Nat → Nat → Option (List (List V)) := fun b off sz n =>
  match H b with
  | some (.cells cs) => (getCells cs off (n * sz)).bind fun c => sealLL floor cv0 (chunks sz n c)
  | _ => none

/-- Environments. -/
def mkEnv : List (Nat × Slot) → Nat → Slot
  | [], _ => .undef
  | (i, s) :: l, j => if j = i then s else mkEnv l j

def argEnv : Nat → List V → List (Nat × Slot)
  | _, [] => []
  | i, v :: vs => (i, .val v) :: argEnv (i + 1) vs

def Slot.clean (live : List Nat) : Slot → Slot
  | .lref t o => if live.contains t then .lref t o else .undef
  | s => s

def limEnv (live : List Nat) (E : Nat → Slot) : List Nat → List (Nat × Slot)
  | [] => []
  | i :: l => (i, (E i).clean live) :: limEnv live E l

def lim (live : List Nat) (E : Nat → Slot) : Nat → Slot := mkEnv (limEnv live E live)

/-- An address: of the frame's own variables, of memory that may be written, of memory that stays. -/
inductive AV where
  | loc (t off : Nat)
  | ref (b off : Nat)
  | imm (cs : List V)

def addrOf (E : Nat → Slot) : Opd → Option AV
  | .t i => match E i with
    | .var _ => some (.loc i 0)
    | .lref t o => some (.loc t o)
    | .val (.ref b o) => some (.ref b o)
    | .val (.pim cs) => some (.imm cs)
    | _ => none
  | .k _ => none

/-- A slot names a block. -/
def Slot.names (b : Nat) : Slot → Bool
  | .val (.ref b' _) => b == b'
  | _ => false

/-- What an operation in a region of open order says of the memory that it reads or writes: nothing; variables of the frame's own; blocks that slots name; no variable. -/
def fence (E : Nat → Slot) (mT mA : List Nat) (a : AV) : Bool :=
  match a with
  | .loc t _ => mT.isEmpty && (mA.isEmpty || mA.contains t)
  | .ref b _ => if mA.isEmpty then mT.isEmpty || mT.any (fun t => (E t).names b) else !mT.isEmpty
  | .imm _ => true

def addrF (E : Nat → Slot) (mT mA : List Nat) (x : Opd) : Option AV :=
  (addrOf E x).bind fun a => if fence E mT mA a then some a else none

theorem addrF_spec {E : Nat → Slot} {mT mA : List Nat} {x : Opd} {a : AV} (h : addrF E mT mA x = some a) : addrOf E x = some a ∧ fence E mT mA a = true := by
  simp only [addrF, Option.bind_eq_some_iff] at h
  obtain ⟨b, hb, h⟩ := h
  split at h
  · rename_i hf
    injection h with h
    subst h
    exact ⟨hb, hf⟩
  · cases h

def AV.slot : AV → Slot
  | .loc t o => .lref t o
  | .ref b o => .val (.ref b o)
  | .imm cs => .val (.pim cs)

def AV.add : AV → Nat → AV
  | .loc t o, n => .loc t (o + n)
  | .ref b o, n => .ref b (o + n)
  | .imm cs, n => .imm (cs.drop n)

def AV.get (E : Nat → Slot) (H : Nat → Option Blk) (n : Nat) : AV → Option (List V)
  | .loc t o => match E t with
    | .var cs => getCells cs o n
    | _ => none
  | .ref b o => match H b with
    | some (.cells cs) => getCells cs o n
    | _ => none
  | .imm cs => getCells cs 0 n

def AV.put (s : St) (new : List V) : AV → Option St
  | .loc t o => match s.E t with
    | .var cs => (setCells cs o new).bind fun cs' => some { s with E := upd s.E t (.var cs') }
    | _ => none
  | .ref b o => match s.H b with
    | some (.cells cs) => if s.floor ≤ b then (setCells cs o new).bind fun cs' => some { s with H := upd s.H b (some (.cells cs')) } else none
    | _ => none
  | .imm _ => none

/-- what a slice or a string holds, as elements -/
def elemsOf (H : Nat → Option Blk) (sz : Nat) : V → Option (List (List V))
  | .list _ es => some es
  | .buf b off sz' n => if sz' = sz then
      match H b with
      | some (.cells cs) => (getCells cs off (n * sz)).bind fun c => some (chunks sz n c)
      | _ => none
    else none
  | .str s => some (s.map fun b => [.int .u8 b.toNat])
  | _ => none

def room : Nat := 4294967296

def idx? (v : V) (n : Nat) : Option Nat :=
  match v with
  | .int _ i => if 0 ≤ i ∧ i < n then some i.toNat else none
  | _ => none

/-- a bound of a slice expression, at most n -/
def bnd? (E : Nat → Slot) (x : Option Opd) (dflt n : Nat) : Option Nat :=
  match x with
  | none => if dflt ≤ n then some dflt else none
  | some o => (o.eval E).bind fun v => match v with
    | .int _ i => if 0 ≤ i ∧ i ≤ n then some i.toNat else none
    | _ => none

def keyEq (ks : KT) (a b : V) : Option Bool :=
  match ks with
  | .one k => eqK k a b
  | .agg ks => match a, b with
    | .agg as, .agg bs => eqCells ks as bs
    | _, _ => none

/-- A key is of its kind. -/
def keyOk (ks : KT) (k : V) : Bool := (keyEq ks k k).isSome

def mapFind (ks : KT) (k : V) : List (V × V) → Option (Option V)
  | [] => some none
  | (k', v) :: es => (keyEq ks k k').bind fun b => if b then some (some v) else mapFind ks k es

def mapSet (ks : KT) (k v : V) : List (V × V) → Option (List (V × V))
  | [] => some [(k, v)]
  | (k', v') :: es => (keyEq ks k k').bind fun b => if b then some ((k, v) :: es) else (mapSet ks k v es).bind fun es' => some ((k', v') :: es')

def mapDel (ks : KT) (k : V) : List (V × V) → Option (List (V × V))
  | [] => some []
  | (k', v') :: es => (keyEq ks k k').bind fun b => if b then some es else (mapDel ks k es).bind fun es' => some ((k', v') :: es')

def foldInt (mx : Bool) : V → List V → Option V
  | v, [] => some v
  | .int k a, .int k' b :: l => if k = k' then foldInt mx (.int k (if mx then (if b > a then b else a) else (if b < a then b else a))) l else none
  | _, _ => none

def byteOf : List V → Option UInt8
  | [.int .u8 n] => some (UInt8.ofNat n.toNat)
  | _ => none

def bytesOf : List (List V) → Option (List UInt8)
  | [] => some []
  | e :: es => (byteOf e).bind fun b => (bytesOf es).bind fun bs => some (b :: bs)

def strR (H : Nat → Option Blk) (v : V) : Option V :=
  match v with
  | .str _ => none
  | v => (elemsOf H 1 v).bind fun es => (bytesOf es).bind fun b => some (.str b)

abbrev CallF := Nat → List V → HS → Option (V × HS)

/-- The blocks that a call in a region of open order may not touch. -/
def maskIds (E : Nat → Slot) (base : Nat) (mT mA : List Nat) : Nat → Bool := fun b =>
  mA.any (fun a => b == base + a) || mT.any (fun t => (E t).names b)

def callMasked (call : CallF) (m : Nat → Bool) (f : Nat) (args : List V) (s : St) : Option (V × St) :=
  (call f args ⟨fun b => if m b then none else s.H b, s.next, s.floor⟩).bind fun r =>
    some (r.1, { s with H := fun b => if m b then s.H b else r.2.H b, next := r.2.next })

def pieceP (p : Perm) : Perm :=
  match p with
  | .full => .full
  | _ => .no

def movR (s : St) (x : Opd) : Option (Slot × St) :=
  match x with
  | .k v => some (.val v, s)
  | .t i => match s.E i with
    | .val v => some (.val v, s)
    | .lref t o => some (.lref t o, s)
    | .var _ => some (.lref i 0, s)
    | .undef => none

def nilR (v : V) : Option V :=
  match v with
  | .fn f cap => some (.fn f cap)
  | _ => none

def lenR (H : Nat → Option Blk) (k : LK) (v : V) : Option V :=
  match k, v with
  | .str, .str b => some (.int .i64 b.length)
  | .sl, .list _ es => some (.int .i64 es.length)
  | .sl, .buf _ _ _ n => some (.int .i64 n)
  | .mp, .nilm => some (.int .i64 0)
  | .mp, .mapr b => match H b with
    | some (.map es) => some (.int .i64 es.length)
    | _ => none
  | _, _ => none

def lookR (H : Nat → Option Blk) (ks : KT) (m k : V) : Option (Option V) :=
  match m with
  | .nilm => some none
  | .mapr b => match H b with
    | some (.map es) => mapFind ks k es
    | _ => none
  | _ => none

/-- One operation: what goes to its slot, and the state behind it. -/
def runOp (call : CallF) (base : Nat) (o : IOper) (s : St) : Option (Slot × St) :=
  let id := base + o.aid
  let pureV (v : Option V) : Option (Slot × St) := v.bind fun v => some (.val v, s)
  match o.op with
  | .mov x => movR s x
  | .pick c a b => pureV ((c.eval s.E).bind fun c => match c with
      | .bool c => if c then a.eval s.E else b.eval s.E
      | _ => none)
  | .allocV zero => some (.var zero, s)
  | .boxV x => (x.eval s.E).bind fun v => some (.var v.cells, s)
  | .allocH zero => some (.val (.ref id 0), { s with H := upd s.H id (some (.cells zero)) })
  | .boxH x => (x.eval s.E).bind fun v => some (.val (.ref id 0), { s with H := upd s.H id (some (.cells v.cells)) })
  | .newPerm sz => some (.val (.list (.own id) []), { s with H := upd s.H id (some (.perm sz 0)) })
  | .load agg n x => pureV ((addrF s.E o.maskT o.maskA x).bind fun a => (a.get s.E s.H n).bind (asVal agg))
  | .store n x v => (addrF s.E o.maskT o.maskA x).bind fun a => (v.eval s.E).bind fun v =>
      if v.cells.length = n ∧ v.cells.all V.one then (a.put s v.cells).bind fun s' => some (.val .undef, s') else none
  | .faddr off x => (addrOf s.E x).bind fun a => some ((a.add off).slot, s)
  | .field agg off n x => pureV ((x.eval s.E).bind fun v => match v with
      | .agg cs => (getCells cs off n).bind (asVal agg)
      | _ => none)
  | .iaddrA len sz x i => (addrOf s.E x).bind fun a => (i.eval s.E).bind fun i => (idx? i len).bind fun i => some ((a.add (i * sz)).slot, s)
  | .iaddrS sz x i => pureV ((x.eval s.E).bind fun v => (i.eval s.E).bind fun i => match v with
      | .list _ es => (idx? i es.length).bind fun i => (es[i]?).bind fun e => if e.length = sz then some (.pim e) else none
      | .buf b off sz' n => if sz' = sz then (idx? i n).bind fun i => some (.ref b (off + i * sz)) else none
      | _ => none)
  | .idxA agg len sz x i => pureV ((x.eval s.E).bind fun v => (i.eval s.E).bind fun i => match v with
      | .agg cs => (idx? i len).bind fun i => (getCells cs (i * sz) sz).bind (asVal agg)
      | _ => none)
  | .idxS x i => pureV ((x.eval s.E).bind fun v => (i.eval s.E).bind fun i => match v with
      | .str b => (idx? i b.length).bind fun i => (b[i]?).bind fun c => some (.int .u8 c.toNat)
      | _ => none)
  | .build zero parts => pureV ((evalParts s.E parts).bind fun ps => (fillV zero ps).bind fun cs => some (.agg cs))
  | .buildS mu sz len zero parts => (evalParts s.E parts).bind fun ps => (fillV zero ps).bind fun cs =>
      if cs.length = len * sz then
        if mu then some (.val (.buf id 0 sz len), { s with H := upd s.H id (some (.cells cs)) })
        else some (.val (.list .full (chunks sz len cs)), s)
      else none
  | .bin op x y => pureV ((x.eval s.E).bind fun x => (y.eval s.E).bind fun y => binV op x y)
  | .eq neg ty x y => pureV ((x.eval s.E).bind fun x => (y.eval s.E).bind fun y => (eqV s.H ty x y).bind fun r => some (.bool (if neg then !r else r)))
  | .un op x => pureV ((x.eval s.E).bind fun x => unV op x)
  | .conv k x => pureV ((x.eval s.E).bind fun x => match x with
      | .int _ n => some (.int k (k.wrap n))
      | _ => none)
  | .nilchk x =>
    match addrOf s.E x with
    | some a => some (a.slot, s)
    | none => pureV ((x.eval s.E).bind nilR)
  | .extract i x => pureV ((x.eval s.E).bind fun v => match v with
      | .tup vs => vs[i]?
      | _ => none)
  | .len k x => pureV ((x.eval s.E).bind fun v => lenR s.H k v)
  | .append md sz x y => (x.eval s.E).bind fun xv => (y.eval s.E).bind fun yv => (elemsOf s.H sz yv).bind fun new =>
      match xv with
      | .list p es =>
        if new.isEmpty then some (.val (.list p es), s)
        else if es.length + new.length ≤ room ∧ headLen sz es ∧ headLen sz new then
          match p with
          | .full =>
            if md = 2 then none
            else if md = 1 then some (.val (.buf id 0 sz (es.length + new.length)), { s with H := upd s.H id (some (.cells (es ++ new).flatten)) })
            else some (.val (.list (.own id) (es ++ new)), { s with H := upd s.H id (some (.perm sz (es.length + new.length))) })
          | .own b =>
            match s.H b with
            | some (.perm sz' k) =>
              if sz' = sz ∧ k = es.length ∧ s.floor ≤ b ∧ (new.all fun e => e.all V.one) then some (.val (.list (.own b) (es ++ new)), { s with H := upd s.H b (some (.perm sz (k + new.length))) })
              else none
            | _ => none
          | .no => none
        else none
      | .buf b off sz' n => if new.isEmpty then some (.val (.buf b off sz' n), s) else none
      | _ => none
  | .mkfn f caps => pureV ((Opd.evals s.E caps).bind fun vs => some (.fn f vs))
  | .call f args => (Opd.evals s.E args).bind fun vs =>
      (callMasked call (maskIds s.E base o.maskT o.maskA) f vs s).bind fun r => some (.val r.1, r.2)
  | .callv x args => (x.eval s.E).bind fun v => (Opd.evals s.E args).bind fun vs => match v with
      | .fn f cap => (callMasked call (maskIds s.E base o.maskT o.maskA) f (vs ++ cap) s).bind fun r => some (.val r.1, r.2)
      | _ => none
  | .sliceStr x lo hi => pureV ((x.eval s.E).bind fun v => match v with
      | .str b => (bnd? s.E hi b.length b.length).bind fun h => (bnd? s.E lo 0 h).bind fun l => some (.str ((b.take h).drop l))
      | _ => none)
  | .sliceL sz x lo hi mx => pureV ((x.eval s.E).bind fun v => match v with
      | .list p es =>
        match mx with
        | none => (bnd? s.E hi es.length es.length).bind fun h => (bnd? s.E lo 0 h).bind fun l =>
            if headLen sz ((es.take h).drop l) then some (.list (if h = es.length then pieceP p else .no) ((es.take h).drop l)) else none
        | some m => if hi.isNone then none else (bnd? s.E (some m) 0 es.length).bind fun m => (bnd? s.E hi es.length m).bind fun h => (bnd? s.E lo 0 h).bind fun l =>
            if headLen sz ((es.take h).drop l) then some (.list (if h = m then .full else .no) ((es.take h).drop l)) else none
      | .buf b off sz' n =>
        if sz' = sz ∧ mx.isNone then (bnd? s.E hi n n).bind fun h => (bnd? s.E lo 0 h).bind fun l => some (.buf b (off + l * sz) sz (h - l))
        else none
      | _ => none)
  | .sliceA len sz x lo hi => (addrOf s.E x).bind fun a => (bnd? s.E hi len len).bind fun h => (bnd? s.E lo 0 h).bind fun l =>
      match a with
      | .ref b off => some (.val (.buf b (off + l * sz) sz (h - l)), s)
      | .imm cs => (getCells cs (l * sz) ((h - l) * sz)).bind fun c => some (.val (.list .no (chunks sz (h - l) c)), s)
      | .loc _ _ => none
  | .s2a len sz x => pureV ((x.eval s.E).bind fun v => match v with
      | .buf b off sz' n => if sz' = sz ∧ len ≤ n ∧ 0 < len then some (.ref b off) else none
      | .list _ es => if len ≤ es.length ∧ 0 < len ∧ headLen sz es then some (.pim (es.take len).flatten) else none
      | _ => none)
  | .mkslice sz zero len => (len.eval s.E).bind fun v => (idx? v room).bind fun n =>
      some (.val (.buf id 0 sz n), { s with H := upd s.H id (some (.cells (List.replicate n zero).flatten)) })
  | .mkmap => some (.val (.mapr id), { s with H := upd s.H id (some (.map [])) })
  | .lookup ks ok zero x i => pureV ((x.eval s.E).bind fun m => (i.eval s.E).bind fun k => if keyOk ks k then
      (lookR s.H ks m k).bind fun r =>
      some (if ok then .tup [r.getD zero, .bool r.isSome] else r.getD zero) else none)
  | .mapupd ks x k v => (x.eval s.E).bind fun m => (k.eval s.E).bind fun k => (v.eval s.E).bind fun v => match m with
      | .mapr b => match s.H b with
        | some (.map es) => if s.floor ≤ b ∧ keyOk ks k then (mapSet ks k v es).bind fun es' => some (.val .undef, { s with H := upd s.H b (some (.map es')) }) else none
        | _ => none
      | _ => none
  | .mapdel ks x k => (x.eval s.E).bind fun m => (k.eval s.E).bind fun k => match m with
      | .mapr b => match s.H b with
        | some (.map es) => if s.floor ≤ b ∧ keyOk ks k then (mapDel ks k es).bind fun es' => some (.val (.tup []), { s with H := upd s.H b (some (.map es')) }) else none
        | _ => none
      | _ => none
  | .maxmin mx xs => pureV ((Opd.evals s.E xs).bind fun vs => match vs with
      | .int k n :: vs => foldInt mx (.int k n) vs
      | _ => none)
  | .strOf x => pureV ((x.eval s.E).bind fun v => strR s.H v)

/-- A slot of the frame's own variable is not written over. -/
def put (s : St) (d : Option Nat) (x : Slot) : Option St :=
  match d with
  | none => some s
  | some d => match s.E d with
    | .var _ => none
    | _ => some { s with E := upd s.E d x }

def wants (E : Nat → Slot) : Option (Nat × Bool) → Bool
  | none => true
  | some (j, want) => match E j with
    | .val (.bool b) => b == want
    | _ => false

/-- What a guard asks of must be known. -/
def guardOk (E : Nat → Slot) : Option (Nat × Bool) → Bool
  | none => true
  | some (j, _) => match E j with
    | .val (.bool _) => true
    | .val .undef => true
    | _ => false

def stepOp (call : CallF) (base : Nat) (o : IOper) (s : St) : Option St :=
  if guardOk s.E o.guard then
    if wants s.E o.guard then (runOp call base o s).bind fun r => put r.2 o.dst r.1
    else put s o.dst (.val .undef)
  else none

def stepOps (call : CallF) (base : Nat) : List IOper → St → Option St
  | [], s => some s
  | o :: os, s => (stepOp call base o s).bind fun s' => stepOps call base os s'

def iterN : Nat → (St → Option (Ex × St)) → St → Option (Ex × St)
  | 0, _, _ => none
  | n + 1, f, s => (f s).bind fun r => match r.1 with
    | .normal => iterN n f r.2
    | _ => some r

def condV (v : Option V) (a b : Option (Ex × St)) : Option (Ex × St) :=
  match v with
  | some (.bool c) => if c then a else b
  | _ => none

def exec (call : CallF) (lf : Nat) : ICode → St → Option (Ex × St)
  | .skip, s => some (.normal, s)
  | .reg _ na ops, s => (stepOps call s.next ops { s with next := s.next + na }).bind fun s' => some (.normal, s')
  | .seq a b, s => (exec call lf a s).bind fun r => match r.1 with
    | .normal => exec call lf b r.2
    | _ => some r
  | .cond c a b, s => condV (c.eval s.E) (exec call lf a s) (exec call lf b s)
  | .block id body, s => (exec call lf body s).bind fun r => match r.1 with
    | .exit i => some (if i = id then .normal else .exit i, r.2)
    | e => some (e, r.2)
  | .loop live body, s => iterN lf (fun s => exec call lf body { s with E := lim live s.E }) s
  | .lim live body, s => (exec call lf body s).bind fun r => match r.1 with
    | .normal => some (.normal, { r.2 with E := lim live r.2.E })
    | _ => some r
  | .exit id, s => some (.exit id, s)
  | .ret, s => some (.ret, s)

def readRes (s : St) : List IRes → Option (List V)
  | [] => some []
  | .tmp t :: l => (Opd.eval s.E (.t t)).bind fun v => (readRes s l).bind fun vs => some (v :: vs)
  | .cell agg n t :: l => ((addrOf s.E (.t t)).bind fun a => (a.get s.E s.H n).bind (asVal agg)).bind fun v => (readRes s l).bind fun vs => some (v :: vs)

def packRes : List V → V
  | [v] => v
  | vs => .tup vs

def runFn (call : CallF) (lf : Nat) (fn : IFunc) (args : List V) (h : HS) : Option (V × HS) :=
  (exec call lf fn.body ⟨mkEnv (argEnv 0 args), h.H, h.next, h.floor⟩).bind fun r => match r.1 with
    | .exit _ => none
    | _ => (readRes r.2 fn.results).bind fun vs => some (packRes vs, ⟨r.2.H, r.2.next, h.floor⟩)

/-- What functions do that are proved by hand: their result, and memory behind it. -/
abbrev Natives := Nat → List V → HS → Option (V × HS)

def callN (nat : Natives) (tbl : Nat → Option IFunc) : Nat → CallF
  | 0 => fun _ _ _ => none
  | n + 1 => fun f args h =>
    match tbl f with
    | none => (nat f args h).bind fun r => some (r.1, ⟨r.2.H, r.2.next, h.floor⟩)
    | some fn =>
      match fn.mode with
      | 0 => (sealL 0 cv0 args).bind fun args' =>
          (runFn (callN nat tbl n) n fn args' ⟨fun _ => none, 0, 0⟩).bind fun r => (sealV 0 (cvH 0 r.2.H) r.1).bind fun v => some (v, h)
      | 1 => (runFn (callN nat tbl n) n fn args ⟨h.H, h.next, h.next⟩).bind fun r => (sealV h.next (cvH h.next r.2.H) r.1).bind fun v => some (v, h)
      | _ => runFn (callN nat tbl n) n fn args h
end Go.Abs
