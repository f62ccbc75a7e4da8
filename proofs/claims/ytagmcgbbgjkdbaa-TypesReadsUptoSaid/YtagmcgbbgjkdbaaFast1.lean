/-
  THE SAME MACHINE OVER TREES: for closed calls that the kernel computes. (Definitions alone.)
-/
import Derived.Test.YtagmcgbbgjkdbaaNat0
set_option linter.all false
namespace Go.Abs
open Go

inductive T (α : Type) where
  | leaf
  | node (v : Option α) (l r : T α)
  deriving Inhabited

noncomputable def T.get {α : Type} (t : T α) : Nat → Option α :=
  @T.rec α (fun _ => Nat → Option α) (fun _ => none)
    (fun v _ _ gl gr n => @Nat.rec (fun _ => Option α) v (fun m _ => @Bool.rec (fun _ => Option α) (gr (Nat.div m 2)) (gl (Nat.div m 2)) (Nat.beq (Nat.mod m 2) 0)) n) t

/-- depth 'd' at the most -/
noncomputable def T.set {α : Type} (d : Nat) : T α → Nat → Option α → T α :=
  @Nat.rec (fun _ => T α → Nat → Option α → T α) (fun t _ _ => t)
    (fun _ ih t n x => @T.rec α (fun _ => T α)
      (@Nat.rec (fun _ => T α) (.node x .leaf .leaf) (fun m _ => @Bool.rec (fun _ => T α) (.node none .leaf (ih .leaf (Nat.div m 2) x)) (.node none (ih .leaf (Nat.div m 2) x) .leaf) (Nat.beq (Nat.mod m 2) 0)) n)
      (fun v l r _ _ => @Nat.rec (fun _ => T α) (.node x l r) (fun m _ => @Bool.rec (fun _ => T α) (.node v l (ih r (Nat.div m 2) x)) (.node v (ih l (Nat.div m 2) x) r) (Nat.beq (Nat.mod m 2) 0)) n) t) d

noncomputable def T.put {α : Type} (t : T α) (n : Nat) (x : Option α) : T α := T.set (Nat.succ n) t n x

/-- What an operation does besides the value of its slot. -/
inductive Eff where
  | no
  | heap (b : Nat) (k : Blk)
  | var (t : Nat) (cs : List V)
  deriving Inhabited

def AV.putE (E : Nat → Slot) (H : Nat → Option Blk) (floor : Nat) (new : List V) : AV → Option Eff
  | .loc t o => match E t with
    | .var cs => (setCells cs o new).bind fun cs' => some (.var t cs')
    | _ => none
  | .ref b o => match H b with
    | some (.cells cs) => if floor ≤ b then (setCells cs o new).bind fun cs' => some (.heap b (.cells cs')) else none
    | _ => none
  | .imm _ => none

def movE (E : Nat → Slot) (x : Opd) : Option (Slot × Eff) :=
  match x with
  | .k v => some (.val v, .no)
  | .t i => match E i with
    | .val v => some (.val v, .no)
    | .lref t o => some (.lref t o, .no)
    | .var _ => some (.lref i 0, .no)
    | .undef => none

/-- One operation that is no call. -/
def effOp (base : Nat) (o : IOper) (E : Nat → Slot) (H : Nat → Option Blk) (floor : Nat) : Option (Slot × Eff) :=
  let id := base + o.aid
  let pureV (v : Option V) : Option (Slot × Eff) := v.bind fun v => some (.val v, .no)
  match o.op with
  | .mov x => movE E x
  | .pick c a b => pureV ((c.eval E).bind fun c => match c with
      | .bool c => if c then a.eval E else b.eval E
      | _ => none)
  | .allocV zero => some (.var zero, .no)
  | .boxV x => (x.eval E).bind fun v => some (.var v.cells, .no)
  | .allocH zero => some (.val (.ref id 0), .heap id (.cells zero))
  | .boxH x => (x.eval E).bind fun v => some (.val (.ref id 0), .heap id (.cells v.cells))
  | .newPerm sz => some (.val (.list (.own id) []), .heap id (.perm sz 0))
  | .load agg n x => pureV ((addrF E o.maskT o.maskA x).bind fun a => (a.get E H n).bind (asVal agg))
  | .store n x v => (addrF E o.maskT o.maskA x).bind fun a => (v.eval E).bind fun v =>
      if v.cells.length = n ∧ v.cells.all V.one then (a.putE E H floor v.cells).bind fun e => some (.val .undef, e) else none
  | .faddr off x => (addrOf E x).bind fun a => some ((a.add off).slot, .no)
  | .field agg off n x => pureV ((x.eval E).bind fun v => match v with
      | .agg cs => (getCells cs off n).bind (asVal agg)
      | _ => none)
  | .iaddrA len sz x i => (addrOf E x).bind fun a => (i.eval E).bind fun i => (idx? i len).bind fun i => some ((a.add (i * sz)).slot, .no)
  | .iaddrS sz x i => pureV ((x.eval E).bind fun v => (i.eval E).bind fun i => match v with
      | .list _ es => (idx? i es.length).bind fun i => (es[i]?).bind fun e => if e.length = sz then some (.pim e) else none
      | .buf b off sz' n => if sz' = sz then (idx? i n).bind fun i => some (.ref b (off + i * sz)) else none
      | _ => none)
  | .idxA agg len sz x i => pureV ((x.eval E).bind fun v => (i.eval E).bind fun i => match v with
      | .agg cs => (idx? i len).bind fun i => (getCells cs (i * sz) sz).bind (asVal agg)
      | _ => none)
  | .idxS x i => pureV ((x.eval E).bind fun v => (i.eval E).bind fun i => match v with
      | .str b => (idx? i b.length).bind fun i => (b[i]?).bind fun c => some (.int .u8 c.toNat)
      | _ => none)
  | .build zero parts => pureV ((evalParts E parts).bind fun ps => (fillV zero ps).bind fun cs => some (.agg cs))
  | .buildS mu sz len zero parts => (evalParts E parts).bind fun ps => (fillV zero ps).bind fun cs =>
      if cs.length = len * sz then
        if mu then some (.val (.buf id 0 sz len), .heap id (.cells cs))
        else some (.val (.list .full (chunks sz len cs)), .no)
      else none
  | .bin op x y => pureV ((x.eval E).bind fun x => (y.eval E).bind fun y => binV op x y)
  | .eq neg ty x y => pureV ((x.eval E).bind fun x => (y.eval E).bind fun y => (eqV H ty x y).bind fun r => some (.bool (if neg then !r else r)))
  | .un op x => pureV ((x.eval E).bind fun x => unV op x)
  | .conv k x => pureV ((x.eval E).bind fun x => match x with
      | .int _ n => some (.int k (k.wrap n))
      | _ => none)
  | .nilchk x =>
    match addrOf E x with
    | some a => some (a.slot, .no)
    | none => pureV ((x.eval E).bind nilR)
  | .extract i x => pureV ((x.eval E).bind fun v => match v with
      | .tup vs => vs[i]?
      | _ => none)
  | .len k x => pureV ((x.eval E).bind fun v => lenR H k v)
  | .append md sz x y => (x.eval E).bind fun xv => (y.eval E).bind fun yv => (elemsOf H sz yv).bind fun new =>
      match xv with
      | .list p es =>
        if new.isEmpty then some (.val (.list p es), .no)
        else if es.length + new.length ≤ room ∧ headLen sz es ∧ headLen sz new then
          match p with
          | .full =>
            if md = 2 then none
            else if md = 1 then some (.val (.buf id 0 sz (es.length + new.length)), .heap id (.cells (es ++ new).flatten))
            else some (.val (.list (.own id) (es ++ new)), .heap id (.perm sz (es.length + new.length)))
          | .own b =>
            match H b with
            | some (.perm sz' k) =>
              if sz' = sz ∧ k = es.length ∧ floor ≤ b ∧ (new.all fun e => e.all V.one) then some (.val (.list (.own b) (es ++ new)), .heap b (.perm sz (k + new.length)))
              else none
            | _ => none
          | .no => none
        else none
      | .buf b off sz' n => if new.isEmpty then some (.val (.buf b off sz' n), .no) else none
      | _ => none
  | .mkfn f caps => pureV ((Opd.evals E caps).bind fun vs => some (.fn f vs))
  | .call _ _ => none
  | .callv _ _ => none
  | .sliceStr x lo hi => pureV ((x.eval E).bind fun v => match v with
      | .str b => (bnd? E hi b.length b.length).bind fun h => (bnd? E lo 0 h).bind fun l => some (.str ((b.take h).drop l))
      | _ => none)
  | .sliceL sz x lo hi mx => pureV ((x.eval E).bind fun v => match v with
      | .list p es =>
        match mx with
        | none => (bnd? E hi es.length es.length).bind fun h => (bnd? E lo 0 h).bind fun l =>
            if headLen sz ((es.take h).drop l) then some (.list (if h = es.length then pieceP p else .no) ((es.take h).drop l)) else none
        | some m => if hi.isNone then none else (bnd? E (some m) 0 es.length).bind fun m => (bnd? E hi es.length m).bind fun h => (bnd? E lo 0 h).bind fun l =>
            if headLen sz ((es.take h).drop l) then some (.list (if h = m then .full else .no) ((es.take h).drop l)) else none
      | .buf b off sz' n =>
        if sz' = sz ∧ mx.isNone then (bnd? E hi n n).bind fun h => (bnd? E lo 0 h).bind fun l => some (.buf b (off + l * sz) sz (h - l))
        else none
      | _ => none)
  | .sliceA len sz x lo hi => (addrOf E x).bind fun a => (bnd? E hi len len).bind fun h => (bnd? E lo 0 h).bind fun l =>
      match a with
      | .ref b off => some (.val (.buf b (off + l * sz) sz (h - l)), .no)
      | .imm cs => (getCells cs (l * sz) ((h - l) * sz)).bind fun c => some (.val (.list .no (chunks sz (h - l) c)), .no)
      | .loc _ _ => none
  | .s2a len sz x => pureV ((x.eval E).bind fun v => match v with
      | .buf b off sz' n => if sz' = sz ∧ len ≤ n ∧ 0 < len then some (.ref b off) else none
      | .list _ es => if len ≤ es.length ∧ 0 < len ∧ headLen sz es then some (.pim (es.take len).flatten) else none
      | _ => none)
  | .mkslice sz zero len => (len.eval E).bind fun v => (idx? v room).bind fun n =>
      some (.val (.buf id 0 sz n), .heap id (.cells (List.replicate n zero).flatten))
  | .mkmap => some (.val (.mapr id), .heap id (.map []))
  | .lookup ks ok zero x i => pureV ((x.eval E).bind fun m => (i.eval E).bind fun k => if keyOk ks k then
      (lookR H ks m k).bind fun r =>
      some (if ok then .tup [r.getD zero, .bool r.isSome] else r.getD zero) else none)
  | .mapupd ks x k v => (x.eval E).bind fun m => (k.eval E).bind fun k => (v.eval E).bind fun v => match m with
      | .mapr b => match H b with
        | some (.map es) => if floor ≤ b ∧ keyOk ks k then (mapSet ks k v es).bind fun es' => some (.val .undef, .heap b (.map es')) else none
        | _ => none
      | _ => none
  | .mapdel ks x k => (x.eval E).bind fun m => (k.eval E).bind fun k => match m with
      | .mapr b => match H b with
        | some (.map es) => if floor ≤ b ∧ keyOk ks k then (mapDel ks k es).bind fun es' => some (.val (.tup []), .heap b (.map es')) else none
        | _ => none
      | _ => none
  | .maxmin mx xs => pureV ((Opd.evals E xs).bind fun vs => match vs with
      | .int k n :: vs => foldInt mx (.int k n) vs
      | _ => none)
  | .strOf x => pureV ((x.eval E).bind fun v => strR H v)

structure FS where
  E : T Slot
  H : T Blk
  next : Nat
  floor : Nat
  deriving Inhabited

structure FH where
  H : T Blk
  next : Nat
  floor : Nat
  deriving Inhabited

abbrev CallFF := Nat → List V → FH → Option (V × FH)

noncomputable def FS.e (s : FS) : Nat → Slot := fun i => @Option.rec Slot (fun _ => Slot) .undef (fun x => x) (s.E.get i)

noncomputable def obind {α β : Type} (x : Option α) (f : α → Option β) : Option β := @Option.rec α (fun _ => Option β) none f x
noncomputable def bsel {α : Type} (b : Bool) (x y : α) : α := @Bool.rec (fun _ => α) y x b

noncomputable def slotV (x : Slot) : Option V := @Slot.rec (fun _ => Option V) none (fun v => some v) (fun _ => none) (fun _ _ => none) x
noncomputable def evF (t : T Slot) (x : Opd) : Option V :=
  @Opd.rec (fun _ => Option V) (fun i => @Option.rec Slot (fun _ => Option V) none slotV (t.get i)) (fun v => some v) x

noncomputable def FS.put (s : FS) (d : Option Nat) (x : Slot) : Option FS :=
  @Option.rec Nat (fun _ => Option FS) (some s)
    (fun d => @Slot.rec (fun _ => Option FS) (some ⟨s.E.put d (some x), s.H, s.next, s.floor⟩) (fun _ => some ⟨s.E.put d (some x), s.H, s.next, s.floor⟩) (fun _ => none) (fun _ _ => some ⟨s.E.put d (some x), s.H, s.next, s.floor⟩) (s.e d)) d

noncomputable def FS.eff (s : FS) (e : Eff) : FS :=
  @Eff.rec (fun _ => FS) s (fun b k => ⟨s.E, s.H.put b (some k), s.next, s.floor⟩) (fun t cs => ⟨s.E.put t (some (.var cs)), s.H, s.next, s.floor⟩) e

def refB : Slot → Option Nat
  | .val (.ref b _) => some b
  | _ => none

def maskL (E : Nat → Slot) (base : Nat) (mT mA : List Nat) : List Nat :=
  mA.map (base + ·) ++ mT.filterMap fun t => refB (E t)

noncomputable def dropAll (H : T Blk) : List Nat → T Blk
  | [] => H
  | b :: l => (dropAll H l).put b none

noncomputable def backAll (H0 H : T Blk) : List Nat → T Blk
  | [] => H
  | b :: l => (backAll H0 H l).put b (H0.get b)

noncomputable def callMF (call : CallFF) (m : List Nat) (f : Nat) (args : List V) (s : FS) : Option (V × FS) :=
  (call f args ⟨dropAll s.H m, s.next, s.floor⟩).bind fun r =>
    some (r.1, { s with H := backAll s.H r.2.H m, next := r.2.next })

/-- The rarer operations. -/
noncomputable def slowF (base : Nat) (o : IOper) (s : FS) : Option (Slot × FS) :=
  obind (effOp base o s.e s.H.get s.floor) fun r => some (r.1, s.eff r.2)

noncomputable def evsF (t : T Slot) (xs : List Opd) : Option (List V) :=
  @List.rec Opd (fun _ => Option (List V)) (some []) (fun x _ ih => obind (evF t x) fun v => obind ih fun vs => some (v :: vs)) xs

noncomputable def callOpF (call : CallFF) (base : Nat) (mT mA : List Nat) (f : Nat) (args : List Opd) (s : FS) : Option (Slot × FS) :=
  obind (evsF s.E args) fun vs => obind (callMF call (maskL s.e base mT mA) f vs s) fun r => some (.val r.1, r.2)
noncomputable def callvOpF (call : CallFF) (base : Nat) (mT mA : List Nat) (x : Opd) (args : List Opd) (s : FS) : Option (Slot × FS) :=
  obind (evF s.E x) fun v => obind (evsF s.E args) fun vs => match v with
      | .fn f cap => obind (callMF call (maskL s.e base mT mA) f (vs ++ cap) s) fun r => some (.val r.1, r.2)
      | _ => none
noncomputable def movF (x : Opd) (s : FS) : Option (Slot × FS) :=
  @Opd.rec (fun _ => Option (Slot × FS)) (fun i => @Slot.rec (fun _ => Option (Slot × FS)) none (fun v => some (.val v, s)) (fun _ => some (.lref i 0, s)) (fun t o => some (.lref t o, s)) (s.e i)) (fun v => some (.val v, s)) x
noncomputable def binF (op : BinOp) (x y : Opd) (s : FS) : Option (Slot × FS) :=
  obind (evF s.E x) fun x => obind (evF s.E y) fun y => obind (binV op x y) fun v => some (.val v, s)
noncomputable def loadF (mT mA : List Nat) (agg : Bool) (n : Nat) (x : Opd) (s : FS) : Option (Slot × FS) :=
  obind (addrF s.e mT mA x) fun a => obind (a.get s.e s.H.get n) fun cs => obind (asVal agg cs) fun v => some (.val v, s)
noncomputable def faddrF (off : Nat) (x : Opd) (s : FS) : Option (Slot × FS) :=
  obind (addrOf s.e x) fun a => some ((a.add off).slot, s)
noncomputable def storeF (mT mA : List Nat) (n : Nat) (x v : Opd) (s : FS) : Option (Slot × FS) :=
  obind (addrF s.e mT mA x) fun a => obind (evF s.E v) fun v =>
    bsel (Nat.beq v.cells.length n && v.cells.all V.one) (obind (a.putE s.e s.H.get s.floor v.cells) fun e => some (.val .undef, s.eff e)) none
noncomputable def pickF (c a b : Opd) (s : FS) : Option (Slot × FS) :=
  obind (evF s.E c) fun c => match c with
    | .bool c => obind (bsel c (evF s.E a) (evF s.E b)) fun v => some (.val v, s)
    | _ => none
noncomputable def extractF (i : Nat) (x : Opd) (s : FS) : Option (Slot × FS) :=
  obind (evF s.E x) fun v => match v with
    | .tup vs => obind (vs[i]?) fun v => some (.val v, s)
    | _ => none
noncomputable def lenF (k : LK) (x : Opd) (s : FS) : Option (Slot × FS) :=
  obind (evF s.E x) fun v => obind (lenR s.H.get k v) fun v => some (.val v, s)

noncomputable def runOpF (call : CallFF) (base : Nat) (o : IOper) (s : FS) : Option (Slot × FS) :=
  match o.op with
  | .mov x => movF x s
  | .bin op x y => binF op x y s
  | .load agg n x => loadF o.maskT o.maskA agg n x s
  | .faddr off x => faddrF off x s
  | .store n x v => storeF o.maskT o.maskA n x v s
  | .pick c a b => pickF c a b s
  | .extract i x => extractF i x s
  | .len k x => lenF k x s
  | .allocV zero => some (.var zero, s)
  | .boxV x => obind (evF s.E x) fun v => some (.var v.cells, s)
  | .call f args => callOpF call base o.maskT o.maskA f args s
  | .callv x args => callvOpF call base o.maskT o.maskA x args s
  | _ => slowF base o s

noncomputable def stepOpF (call : CallFF) (base : Nat) (o : IOper) (s : FS) : Option FS :=
  @Option.rec (Nat × Bool) (fun _ => Option FS) (obind (runOpF call base o s) fun r => r.2.put o.dst r.1)
    (fun g => bsel (guardOk s.e (some g)) (bsel (wants s.e (some g)) (obind (runOpF call base o s) fun r => r.2.put o.dst r.1) (s.put o.dst (.val .undef))) none) o.guard

noncomputable def stepOpsF (call : CallFF) (base : Nat) (os : List IOper) : FS → Option FS :=
  @List.rec IOper (fun _ => FS → Option FS) (fun s => some s) (fun o _ ih s => obind (stepOpF call base o s) ih) os

noncomputable def afterF (k : FS → Option (Ex × FS)) (r : Ex × FS) : Option (Ex × FS) :=
  @Prod.rec Ex FS (fun _ => Option (Ex × FS)) (fun e s => @Ex.rec (fun _ => Option (Ex × FS)) (k s) (fun i => some (.exit i, s)) (some (.ret, s)) e) r

noncomputable def iterF (n : Nat) (f : FS → Option (Ex × FS)) : FS → Option (Ex × FS) :=
  @Nat.rec (fun _ => FS → Option (Ex × FS)) (fun _ => none) (fun _ ih s => obind (f s) (afterF ih)) n

noncomputable def limF (live : List Nat) (E : Nat → Slot) (l : List Nat) : T Slot :=
  @List.rec Nat (fun _ => T Slot) .leaf (fun i _ ih => ih.put i (some ((E i).clean live))) l

noncomputable def condF (v : Option V) (a b : Option (Ex × FS)) : Option (Ex × FS) :=
  match v with
  | some (.bool c) => bsel c a b
  | _ => none

noncomputable def blockF (id : Nat) (r : Ex × FS) : Option (Ex × FS) :=
  @Prod.rec Ex FS (fun _ => Option (Ex × FS)) (fun e s => @Ex.rec (fun _ => Option (Ex × FS)) (some (.normal, s)) (fun i => some (bsel (Nat.beq i id) .normal (.exit i), s)) (some (.ret, s)) e) r

noncomputable def execF (call : CallFF) (lf : Nat) (c : ICode) : FS → Option (Ex × FS) :=
  @ICode.rec (fun _ => FS → Option (Ex × FS))
    (fun s => some (.normal, s))
    (fun _ na ops s => obind (stepOpsF call s.next ops ⟨s.E, s.H, Nat.add s.next na, s.floor⟩) fun s' => some (.normal, s'))
    (fun _ _ a b s => obind (a s) (afterF b))
    (fun c _ _ a b s => condF (evF s.E c) (a s) (b s))
    (fun id _ a s => obind (a s) (blockF id))
    (fun live _ a s => iterF lf (fun s => a ⟨limF live s.e live, s.H, s.next, s.floor⟩) s)
    (fun live _ a s => obind (a s) (afterF fun s => some (.normal, ⟨limF live s.e live, s.H, s.next, s.floor⟩)))
    (fun id s => some (.exit id, s))
    (fun s => some (.ret, s)) c

noncomputable def readResF (s : FS) : List IRes → Option (List V)
  | [] => some []
  | .tmp t :: l => (Opd.eval s.e (.t t)).bind fun v => (readResF s l).bind fun vs => some (v :: vs)
  | .cell agg n t :: l => ((addrOf s.e (.t t)).bind fun a => (a.get s.e s.H.get n).bind (asVal agg)).bind fun v => (readResF s l).bind fun vs => some (v :: vs)

noncomputable def argT : Nat → List V → T Slot
  | _, [] => .leaf
  | i, v :: vs => (argT (i + 1) vs).put i (some (.val v))

noncomputable def runFnF (call : CallFF) (lf : Nat) (fn : IFunc) (args : List V) (h : FH) : Option (V × FH) :=
  obind (execF call lf fn.body ⟨argT 0 args, h.H, h.next, h.floor⟩) fun r => match r.1 with
    | .exit _ => none
    | _ => (readResF r.2 fn.results).bind fun vs => some (packRes vs, ⟨r.2.H, r.2.next, h.floor⟩)

/-- Natives over trees: slices.Clone. -/
noncomputable def cloneF (sz : Nat) (args : List V) (h : FH) : Option (V × FH) :=
  match args with
  | [.list _ es] =>
    if es.isEmpty then some (.list .full [], ⟨h.H, h.next + 1, h.floor⟩)
    else if es.length ≤ room ∧ headLen sz es then some (.list (.own h.next) es, ⟨h.H.put h.next (some (.perm sz es.length)), h.next + 1, h.floor⟩)
    else none
  | _ => none

noncomputable def natF (l : List (Nat × Nat)) : CallFF := fun f args h =>
  match l.find? (·.1 == f) with
  | some (_, sz) => cloneF sz args h
  | none => none

noncomputable def bodyF (nat : List (Nat × Nat)) (tbl : T IFunc) (n : Nat) (call : CallFF) : CallFF := fun f args h =>
    match tbl.get f with
    | none => (natF nat f args h).bind fun r => some (r.1, ⟨r.2.H, r.2.next, h.floor⟩)
    | some fn =>
      match fn.mode with
      | 0 => (sealL 0 cv0 args).bind fun args' =>
          (runFnF call n fn args' ⟨.leaf, 0, 0⟩).bind fun r => (sealV 0 (cvH 0 r.2.H.get) r.1).bind fun v => some (v, h)
      | 1 => (runFnF call n fn args ⟨h.H, h.next, h.next⟩).bind fun r => (sealV h.next (cvH h.next r.2.H.get) r.1).bind fun v => some (v, h)
      | _ => runFnF call n fn args h

/-- The table as a tree. -/
noncomputable def treeOf (l : List (Nat × IFunc)) : T IFunc := l.foldr (fun p t => t.put p.1 (some p.2)) .leaf

noncomputable def callF (nat : List (Nat × Nat)) (tbl : T IFunc) (n : Nat) : CallFF :=
  @Nat.rec (fun _ => CallFF) (fun _ _ _ => none) (fun n ih => bodyF nat tbl n ih) n
end Go.Abs
