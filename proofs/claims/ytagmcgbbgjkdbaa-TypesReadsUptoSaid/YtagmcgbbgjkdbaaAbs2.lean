/-
  WHEN A PIECE OF THE LEAN IR STANDS FOR A PIECE OF LOADED CODE: checks that the kernel computes.
-/
import Derived.Test.YtagmcgbbgjkdbaaAbs1
set_option linter.all false
namespace Go.Abs
open Go

def bytesEq (s : List UInt8) (b : ByteArray) : Bool := decide (b.data.toList = s)

mutual
def okConst : V → Value → Bool
  | .int k n, .int k' n' => decide (k = k') && decide (n = n')
  | .bool a, .bool b => decide (a = b)
  | .str s, .string b => bytesEq s b
  | .nilp, .pointer none => true
  | .list .full [], .slice none 0 0 => true
  | .nilm, .map none => true
  | .nilf, .nilFunc => true
  | .agg cs, .agg xs => okConsts cs xs.toList
  | _, _ => false
def okConsts : List V → List Value → Bool
  | [], [] => true
  | c :: cs, x :: xs => okConst c x && okConsts cs xs
  | _, _ => false
end

def okOpd : Opd → Operand → Bool
  | .t i, .tmp j => decide (i = j)
  | .k v, .const x => okConst v x
  | .k (.fn f cap), .func g => decide (f = g) && cap.isEmpty
  | _, _ => false

def okOpds : List Opd → List Operand → Bool
  | [], [] => true
  | x :: xs, y :: ys => okOpd x y && okOpds xs ys
  | _, _ => false

def okOpt : Option Opd → Option Operand → Bool
  | none, none => true
  | some x, some y => okOpd x y
  | _, _ => false

section
variable (P : Program)

def tSize (t : TypeId) (n : Nat) : Bool := match P.info? t with
  | some i => decide (i.size = n)
  | none => false

def tAgg (t : TypeId) (agg : Bool) : Bool := match P.underlying t with
  | some (.struct _) | some (.array _ _) => agg
  | some _ => !agg
  | none => false

def tZero (t : TypeId) (cs : List V) : Bool := match P.info? t with
  | some i => match i.zero with
    | some z => okConsts cs z.cells.toList
    | none => false
  | none => false

def tZero1 (t : TypeId) (v : V) : Bool := match P.info? t with
  | some i => match i.zero with
    | some z => okConst v z
    | none => false
  | none => false

def tField (s : TypeId) (f off : Nat) (sz : Nat) : Option TypeId := match P.underlying s with
  | some (.struct fs) => match fs[f]? with
    | some fd => if fd.offset = off ∧ tSize P fd.type sz then some fd.type else none
    | none => none
  | _ => none

def tFieldNe (s : TypeId) (f off : Nat) : Bool := match P.underlying s with
  | some (.struct fs) => match fs[f]? with
    | some fd => decide (fd.offset = off) && (match P.info? fd.type with | some i => decide (i.size ≠ 0) | none => false)
    | none => false
  | _ => false

/-- The kinds of the cells of a type that is made of whole numbers, bools and strings alone, and may be held against itself cell by cell. -/
def cellKinds : Nat → TypeId → Option (List CK)
  | 0, _ => none
  | d + 1, t => match P.underlying t with
    | some (.int _) => if tSize P t 1 then some [.i] else none
    | some .bool => if tSize P t 1 then some [.b] else none
    | some .string => if tSize P t 1 then some [.s] else none
    | some (.struct fs) => if P.stoodInHeld t then none else
        (fs.toList.foldlM (m := Option) (init := ([] : List CK)) fun acc f =>
          if f.name ≠ "_" ∧ f.offset = acc.length then
            (cellKinds d f.type).bind fun ks => if tSize P f.type ks.length then some (acc ++ ks) else none
          else none).bind fun ks => if tSize P t ks.length then some ks else none
    | some (.array n e) => (cellKinds d e).bind fun ks => if tSize P e ks.length ∧ tSize P t (n * ks.length) then some (List.replicate n ks).flatten else none
    | _ => none

def tEq (ty : EqT) (t : TypeId) : Bool := match ty, P.underlying t with
  | .agg ks, some (.struct _) | .agg ks, some (.array _ _) => decide (cellKinds P 8 t = some ks) && !P.eqGuardType P.depth t
  | .ptr, some (.pointer e) => (match P.info? e with | some i => decide (i.size ≠ 0) | none => false)
  | .bool, some .bool => true
  | .map, some (.map _ _) => true
  | _, _ => false

def tElem (t : TypeId) (sz : Nat) : Option TypeId := match P.underlying t with
  | some (.slice e) => if tSize P e sz then some e else none
  | _ => none

def tArr (t : TypeId) (len sz : Nat) : Option TypeId := match P.underlying t with
  | some (.array n e) => if n = len ∧ tSize P e sz then some e else none
  | _ => none

/-- parts of a struct or an array -/
def okParts (place : Nat → Nat → Nat → Bool) : List (Nat × Nat × Opd) → List (Nat × Operand) → Bool
  | [], [] => true
  | (off, n, x) :: ps, (i, y) :: qs => place i off n && okOpd x y && okParts place ps qs
  | _, _ => false

def tKey (ks : KT) (k : TypeId) : Bool := match ks, P.underlying k with
  | .one .i, some (.int _) | .one .b, some .bool | .one .s, some .string => true
  | .agg ks, some (.struct _) | .agg ks, some (.array _ _) => decide (cellKinds P 8 k = some ks)
  | _, _ => false

def tMap (ks : KT) (t : TypeId) : Option TypeId := match P.underlying t with
  | some (.map k e) => if tKey P ks k then some e else none
  | _ => none

def tIsInt (t : Option TypeId) : Bool := match t with
  | some t => (match P.underlying t with | some (.int _) => true | some _ => false | none => true)
  | none => false

def tBytes (t : TypeId) : Bool := match P.info? t with
  | some i => decide (i.bytes ≤ 4096)
  | none => false

def lenT (k : LK) (t : TypeId) : Bool :=
  match k, P.underlying t with | .str, some .string | .sl, some (.slice _) | .mp, some (.map _ _) => true | _, _ => false

def opCall : Op → Option (Callee × List Operand × List TypeId)
  | .call c => some (c.callee, c.args.toList, c.argTypes.toList)
  | _ => none

def okOp (io : IOper) (o : Oper) : Bool :=
  match io.op with
  | .mov x => (match o.op with
    | .move y | .assign y => okOpd x y
    | _ => (match opCall o.op with
      | some (.builtin .len, [_], [t]) => (match x, P.underlying t with
        | .k (.int .i64 n), some (.array m _) => decide (n = m)
        | _, _ => false)
      | _ => false))
  | .pick c a b => (match o.op with
    | .pick c' a' b' => okOpd c c' && okOpd a a' && okOpd b b'
    | _ => false)
  | .allocV zero | .allocH zero => (match o.op with
    | .alloc t => tZero P t zero
    | _ => false)
  | .boxV x | .boxH x => (match o.op with
    | .box _ y => okOpd x y
    | _ => false)
  | .newPerm sz => (match o.op with
    | .move (.const (.slice none 0 0)) | .assign (.const (.slice none 0 0)) => decide (0 < sz)
    | _ => false)
  | .load agg n x => (match o.op with
    | .load t a => tAgg P t agg && tSize P t n && (agg || decide (n = 1)) && okOpd x a
    | _ => false)
  | .store n x v => (match o.op with
    | .store t a y => tSize P t n && okOpd x a && okOpd v y
    | _ => false)
  | .faddr off x => (match o.op with
    | .fieldAddr s a f => tFieldNe P s f off && okOpd x a
    | _ => false)
  | .field agg off n x => (match o.op with
    | .field s a f => (match tField P s f off n with | some t => tAgg P t agg && (agg || decide (n = 1)) | none => false) && okOpd x a
    | _ => false)
  | .iaddrA len sz x i => (match o.op with
    | .indexAddr t a j => (tArr P t len sz).isSome && okOpd x a && okOpd i j
    | _ => false)
  | .iaddrS sz x i => (match o.op with
    | .indexAddr t a j => (tElem P t sz).isSome && okOpd x a && okOpd i j
    | _ => false)
  | .idxA agg len sz x i => (match o.op with
    | .index t a j => (match tArr P t len sz with | some e => tAgg P e agg && (agg || decide (sz = 1)) | none => false) && okOpd x a && okOpd i j
    | _ => false)
  | .idxS x i => (match o.op with
    | .index t a j => (match P.underlying t with | some .string => true | _ => false) && okOpd x a && okOpd i j
    | _ => false)
  | .build zero parts => (match o.op with
    | .build t ps => tZero P t zero && (match P.underlying t with
      | some (.struct fs) => okParts (fun i off n => (match fs[i]? with | some f => decide (f.offset = off) && tSize P f.type n | none => false)) parts ps.toList &&
          fs.toList.all fun f => (P.info? f.type).isSome
      | some (.array _ e) => (match P.info? e with | some ie => okParts (fun i off n => decide (off = i * ie.size) && decide (n = ie.size)) parts ps.toList | none => false)
      | _ => false)
    | _ => false)
  | .buildS _ sz len zero parts => (match o.op with
    | .buildSlice t n ps => decide (n = len) && decide (len * sz ≤ 2 ^ 24) && (match tElem P t sz with
      | some e => (match P.info? e with
        | some ie => (match ie.zero with
          | some z => decide (z.cells.size = sz) && decide (0 < sz) && okConsts zero ((Array.range (len * sz)).map (z.cells[· % z.cells.size]!)).toList
          | none => false)
        | none => false)
      | none => false) && okParts (fun i off m => decide (off = i * sz) && decide (m = sz)) parts ps.toList
    | _ => false)
  | .bin op x y => (match o.op with
    | .binOp op' _ x' y' _ => decide (op = op') && okOpd x x' && okOpd y y'
    | _ => false)
  | .eq neg ty x y => (match o.op with
    | .binOp .eql t x' y' _ => !neg && okOpd x x' && okOpd y y' && tEq P ty t
    | .binOp .neq t x' y' _ => neg && okOpd x x' && okOpd y y' && tEq P ty t
    | _ => false)
  | .un op x => (match o.op with
    | .unOp op' _ y => decide (op = op') && okOpd x y
    | _ => false)
  | .conv k x => (match o.op with
    | .convert src dst y => (match P.underlying src, P.underlying dst with | some _, some (.int k') => decide (k = k') | _, _ => false) && okOpd x y
    | _ => false)
  | .nilchk x => (match o.op with
    | .nilCheck y => okOpd x y
    | _ => false)
  | .extract i x => (match o.op with
    | .extract y j => decide (i = j) && okOpd x y
    | _ => false)
  | .len k x => (match opCall o.op with
    | some (.builtin .len, [y], [t]) => okOpd x y && lenT P k t
    | _ => false)
  | .append _ sz x y => (match opCall o.op with
    | some (.builtin .append, [x', y'], [t, u]) => okOpd x x' && okOpd y y' && decide (0 < sz) && (match tElem P t sz with
      | some e => tBytes P e && (match P.info? e with | some ie => (match ie.zero with | some z => decide (z.cells.size = sz) | none => false) | none => false)
      | none => false) && (match P.underlying u with | some (.slice _) | some .string => true | _ => false)
    | _ => false)
  | .mkfn f caps => (match o.op with
    | .makeFunc (.func g) first cs => decide (f = g) && first.isEmpty && okOpds caps cs.toList
    | _ => false)
  | .call f args => (match opCall o.op with
    | some (.value (.func g), as, _) => decide (f = g) && okOpds args as
    | _ => false)
  | .callv x args => (match opCall o.op with
    | some (.value y, as, _) => okOpd x y && okOpds args as
    | _ => false)
  | .sliceStr x lo hi => (match o.op with
    | .slice t y l h m => (match P.underlying t with | some .string => true | _ => false) && okOpd x y && okOpt lo l && okOpt hi h && m.isNone
    | _ => false)
  | .sliceL sz x lo hi mx => (match o.op with
    | .slice t y l h m => (tElem P t sz).isSome && okOpd x y && okOpt lo l && okOpt hi h && okOpt mx m
    | _ => false)
  | .sliceA len sz x lo hi => (match o.op with
    | .slice t y l h m => (tArr P t len sz).isSome && okOpd x y && okOpt lo l && okOpt hi h && m.isNone
    | _ => false)
  | .s2a len sz x => (match o.op with
    | .sliceToArrayPointer t y => (tArr P t len sz).isSome && okOpd x y
    | _ => false)
  | .mkslice sz zero len => (match o.op with
    | .makeSlice t y z => okOpd len y && okOpd len z && decide (0 < sz) && (match tElem P t sz with
      | some e => tBytes P e && tZero P e zero && decide (zero.length = sz)
      | none => false)
    | _ => false)
  | .mkmap => (match o.op with
    | .makeMap _ none => true
    | _ => false)
  | .lookup ks ok zero x i => (match o.op with
    | .lookup t y j ok' => decide (ok = ok') && okOpd x y && okOpd i j && (match tMap P ks t with
      | some e => tZero1 P e zero
      | none => false)
    | _ => false)
  | .mapupd ks x k v => (match o.op with
    | .mapUpdate t y j u => okOpd x y && okOpd k j && okOpd v u && (tMap P ks t).isSome
    | _ => false)
  | .mapdel ks x k => (match opCall o.op with
    | some (.builtin .delete, [y, j], t :: _) => okOpd x y && okOpd k j && (tMap P ks t).isSome
    | _ => false)
  | .maxmin mx xs => (match opCall o.op with
    | some (.builtin .max, ys, _) => mx && okOpds xs ys
    | some (.builtin .min, ys, _) => !mx && okOpds xs ys
    | _ => false)
  | .strOf x => (match o.op with
    | .convert src dst y => (match P.underlying src, P.underlying dst with
      | some (.slice e), some .string => (match P.underlying e with | some (.int k) => decide (k = .u8) | _ => false)
      | _, _ => false) && okOpd x y
    | _ => false)

/-- The slots that an operation of the IR looks at. -/
def Opd.slots : Opd → List Nat
  | .t i => [i]
  | .k _ => []
def optSlots : Option Opd → List Nat
  | some x => x.slots
  | none => []

def IOp.slots : IOp → List Nat
  | .mov x | .boxV x | .boxH x | .load _ _ x | .faddr _ x | .field _ _ _ x | .un _ x | .conv _ x | .nilchk x | .extract _ x | .len _ x | .s2a _ _ x | .mkslice _ _ x | .strOf x => x.slots
  | .pick a b c | .mapupd _ a b c => a.slots ++ b.slots ++ c.slots
  | .allocV _ | .allocH _ | .newPerm _ | .mkmap => []
  | .store _ x y | .iaddrA _ _ x y | .iaddrS _ x y | .idxA _ _ _ x y | .idxS x y | .bin _ x y | .append _ _ x y | .lookup _ _ _ x y | .mapdel _ x y | .eq _ _ x y => x.slots ++ y.slots
  | .build _ ps | .buildS _ _ _ _ ps => ps.flatMap fun p => p.2.2.slots
  | .mkfn _ xs | .call _ xs | .maxmin _ xs => xs.flatMap Opd.slots
  | .callv x xs => x.slots ++ xs.flatMap Opd.slots
  | .sliceStr x l h => x.slots ++ optSlots l ++ optSlots h
  | .sliceL _ x l h m => x.slots ++ optSlots l ++ optSlots h ++ optSlots m
  | .sliceA _ _ x l h => x.slots ++ optSlots l ++ optSlots h

/-- What an operation does beside its slot: nothing · it reads memory that may be written · it makes a block · it writes memory · it calls. -/
inductive Kind where
  | plain | reads | makes | writes | calls
  deriving DecidableEq

def IOp.kind : IOp → Kind
  | .load .. | .len .. | .lookup .. | .eq .. | .strOf .. => .reads
  | .allocH _ | .boxH _ | .newPerm _ | .mkslice .. | .mkmap => .makes
  | .allocV _ | .boxV _ => .makes
  | .buildS mu .. => if mu then .makes else .plain
  | .store .. | .append .. | .mapupd .. | .mapdel .. => .writes
  | .call .. | .callv .. => .calls
  | _ => .plain

end
end Go.Abs
