/-
  THE PROGRAM's TYPES AS PLAIN LEAN TYPES, and how their values lie in cells.
-/
import Derived.Test.YtagmcgbbgjkdbaaSym0
set_option linter.all false
namespace Go.Abs.M
open Go Go.Abs

abbrev Str := List UInt8

structure Dec where
  neg : Bool
  n0 : Int
  n1 : Int
  n2 : Int
  n3 : Int
  scale : Int
  deriving DecidableEq, Inhabited
def Dec.cells (d : Dec) : List V := [.bool d.neg, .int .u64 d.n0, .int .u64 d.n1, .int .u64 d.n2, .int .u64 d.n3, .int .i64 d.scale]

structure Val where
  kind : Int
  num : Dec
  flag : Bool
  text : Str
  err : Int
  deriving DecidableEq, Inhabited
def Val.cells (v : Val) : List V := [.int .i64 v.kind, .bool v.num.neg, .int .u64 v.num.n0, .int .u64 v.num.n1, .int .u64 v.num.n2, .int .u64 v.num.n3, .int .i64 v.num.scale, .bool v.flag, .str v.text, .int .i64 v.err]

structure Typ where
  kind : Int
  scale : Int
  deriving DecidableEq, Inhabited

structure Expr where
  kind : Int
  op : Int
  name : Str
  sect : Str
  value : Val
  scale : Int
  policy : Int
  args : List Expr
  deriving Inhabited

mutual
def Expr.cells : Expr → List V
  | ⟨k, o, n, s, v, sc, p, as⟩ => [.int .i64 k, .int .i64 o, .str n, .str s, .int .i64 v.kind, .bool v.num.neg, .int .u64 v.num.n0, .int .u64 v.num.n1, .int .u64 v.num.n2, .int .u64 v.num.n3, .int .i64 v.num.scale, .bool v.flag, .str v.text, .int .i64 v.err, .int .i64 sc, .int .i64 p, .list .no (Expr.cellsL as)]
def Expr.cellsL : List Expr → List (List V)
  | [] => []
  | x :: xs => x.cells :: Expr.cellsL xs
end
theorem Expr.cellsL_map : ∀ xs : List Expr, Expr.cellsL xs = xs.map Expr.cells
  | [] => rfl
  | x :: xs => by simp only [Expr.cellsL, List.map_cons, Expr.cellsL_map xs]
theorem Expr.cells_eq (x : Expr) : x.cells = [.int .i64 x.kind, .int .i64 x.op, .str x.name, .str x.sect, .int .i64 x.value.kind, .bool x.value.num.neg, .int .u64 x.value.num.n0, .int .u64 x.value.num.n1, .int .u64 x.value.num.n2, .int .u64 x.value.num.n3, .int .i64 x.value.num.scale, .bool x.value.flag, .str x.value.text, .int .i64 x.value.err, .int .i64 x.scale, .int .i64 x.policy, .list .no (x.args.map Expr.cells)] := by
  rw [← Expr.cellsL_map]
  cases x; simp only [Expr.cells]
@[simp] theorem Expr.cells_length (x : Expr) : x.cells.length = 17 := by rw [Expr.cells_eq]; rfl
@[simp] theorem Expr.storable (x : Expr) : storable x.cells = true := by rw [Expr.cells_eq]; rfl

structure Item where
  name : Str
  kind : Int
  type : Typ
  need : Bool
  policy : Int
  expr : Expr
  deriving Inhabited
def Item.cells (x : Item) : List V := [.str x.name, .int .i64 x.kind, .int .i64 x.type.kind, .int .i64 x.type.scale, .bool x.need, .int .i64 x.policy] ++ x.expr.cells
@[simp] theorem Item.cells_length (x : Item) : x.cells.length = 23 := by simp [Item.cells]
@[simp] theorem Item.storable (x : Item) : storable x.cells = true := by simp [Item.cells]
@[simp] theorem Dec.storable (x : Dec) : storable x.cells = true := _root_.id rfl
@[simp] theorem Val.storable (x : Val) : storable x.cells = true := _root_.id rfl
@[simp] theorem Dec.cells_length (x : Dec) : x.cells.length = 6 := _root_.id rfl
@[simp] theorem Val.cells_length (x : Val) : x.cells.length = 10 := _root_.id rfl

structure Section where
  name : Str
  max : Int
  items : List Item
  kids : List Section
  deriving Inhabited
mutual
def Section.cells : Section → List V
  | ⟨n, m, is, ks⟩ => [.str n, .int .i64 m, .list .no (is.map Item.cells), .list .no (Section.cellsL ks)]
def Section.cellsL : List Section → List (List V)
  | [] => []
  | x :: xs => x.cells :: Section.cellsL xs
end
theorem Section.cellsL_map : ∀ xs : List Section, Section.cellsL xs = xs.map Section.cells
  | [] => rfl
  | x :: xs => by simp only [Section.cellsL, List.map_cons, Section.cellsL_map xs]
theorem Section.cells_eq (x : Section) : x.cells = [.str x.name, .int .i64 x.max, .list .no (x.items.map Item.cells), .list .no (x.kids.map Section.cells)] := by
  rw [← Section.cellsL_map]
  cases x; simp only [Section.cells]
@[simp] theorem Section.cells_length (x : Section) : x.cells.length = 4 := by rw [Section.cells_eq]; rfl
@[simp] theorem Section.storable (x : Section) : storable x.cells = true := by rw [Section.cells_eq]; rfl

structure Step where
  start : Dec
  base : Dec
  rate : Dec
  deriving Inhabited
def Step.cells (s : Step) : List V := s.start.cells ++ s.base.cells ++ s.rate.cells
@[simp] theorem Step.cells_length (x : Step) : x.cells.length = 18 := _root_.id rfl
structure Table where
  name : Str
  steps : List Step
  deriving Inhabited
def Table.cells (t : Table) : List V := [.str t.name, .list .no (t.steps.map Step.cells)]
@[simp] theorem Table.cells_length (x : Table) : x.cells.length = 2 := _root_.id rfl
structure Page where
  name : Str
  cond : Expr
  items : List Str
  deriving Inhabited
def Page.cells (p : Page) : List V := [.str p.name] ++ p.cond.cells ++ [.list .no (p.items.map fun s => [.str s])]
@[simp] theorem Page.cells_length (x : Page) : x.cells.length = 19 := by simp [Page.cells]
structure Def where
  name : Str
  root : Section
  tables : List Table
  pages : List Page
  deriving Inhabited
def Def.cells (d : Def) : List V := [.str d.name] ++ d.root.cells ++ [.list .no (d.tables.map Table.cells), .list .no (d.pages.map Page.cells)]
@[simp] theorem Step.storable (x : Step) : storable x.cells = true := _root_.id rfl
@[simp] theorem Table.storable (x : Table) : storable x.cells = true := _root_.id rfl
@[simp] theorem Page.storable (x : Page) : storable x.cells = true := by simp [Page.cells]
@[simp] theorem Def.storable (x : Def) : storable x.cells = true := by simp [Def.cells]
@[simp] theorem Def.cells_length (x : Def) : x.cells.length = 7 := by simp [Def.cells]
structure Sect where
  parent : Int
  depth : Int
  name : Str
  max : Int
  items : List Item
  deriving Inhabited
def Sect.cells (s : Sect) : List V := [.int .i64 s.parent, .int .i64 s.depth, .str s.name, .int .i64 s.max, .list .no (s.items.map Item.cells)]
@[simp] theorem Sect.storable (x : Sect) : storable x.cells = true := _root_.id rfl
@[simp] theorem Sect.cells_length (x : Sect) : x.cells.length = 5 := _root_.id rfl
structure Read where
  sect : Str
  name : Str
  deriving DecidableEq, Inhabited
def Read.cells (r : Read) : List V := [.str r.sect, .str r.name]
@[simp] theorem Read.storable (x : Read) : storable x.cells = true := _root_.id rfl
@[simp] theorem Read.cells_length (x : Read) : x.cells.length = 2 := _root_.id rfl

/-! Values that leave a call as they are -/
section
variable (fl : Nat) (cv : Nat → Nat → Nat → Nat → Option (List (List V)))
def Stay (cs : List V) : Prop := sealL fl cv cs = some cs

theorem sealL_append : ∀ (as bs : List V) {as' bs' : List V}, sealL fl cv as = some as' → sealL fl cv bs = some bs' → sealL fl cv (as ++ bs) = some (as' ++ bs')
  | [], bs, as', bs', h, k => by simp only [sealL, Option.some.injEq] at h; subst h; exact k
  | a :: as, bs, as', bs', h, k => by
    simp only [sealL, Option.bind_eq_some_iff, Option.some.injEq] at h
    obtain ⟨a', h1, as'', h2, rfl⟩ := h
    simp only [List.cons_append, sealL, h1, sealL_append as bs h2 k, Option.bind_some]
theorem sealLL_map {α : Type} (f : α → List V) : ∀ (l : List α), (∀ x ∈ l, sealL fl cv (f x) = some (f x)) → sealLL fl cv (l.map f) = some (l.map f)
  | [], _ => rfl
  | x :: xs, h => by
    simp only [List.map_cons, sealLL, h x List.mem_cons_self, sealLL_map f xs fun y hy => h y (List.mem_cons_of_mem _ hy), Option.bind_some]

@[simp] theorem Dec.stay (d : Dec) : sealL fl cv d.cells = some d.cells := _root_.id rfl
@[simp] theorem Val.stay (d : Val) : sealL fl cv d.cells = some d.cells := _root_.id rfl
mutual
theorem Expr.stay' : ∀ x : Expr, sealL fl cv x.cells = some x.cells
  | ⟨k, o, n, s, v, sc, p, as⟩ => by simp only [Expr.cells, sealL, sealV, sealP, Expr.stayL as, Option.bind_some]
theorem Expr.stayL : ∀ xs : List Expr, sealLL fl cv (Expr.cellsL xs) = some (Expr.cellsL xs)
  | [] => rfl
  | x :: xs => by simp only [Expr.cellsL, sealLL, Expr.stay' x, Expr.stayL xs, Option.bind_some]
end
@[simp] theorem Expr.stay (x : Expr) : sealL fl cv x.cells = some x.cells := Expr.stay' fl cv x
@[simp] theorem Item.stay (x : Item) : sealL fl cv x.cells = some x.cells := by
  unfold Item.cells
  exact sealL_append fl cv _ _ rfl (Expr.stay fl cv _)
@[simp] theorem Items.stay (l : List Item) : sealLL fl cv (l.map Item.cells) = some (l.map Item.cells) := sealLL_map fl cv _ l fun x _ => Item.stay fl cv x
mutual
theorem Section.stay' : ∀ x : Section, sealL fl cv x.cells = some x.cells
  | ⟨n, m, is, ks⟩ => by simp only [Section.cells, sealL, sealV, sealP, Section.stayL ks, Items.stay, Option.bind_some]
theorem Section.stayL : ∀ xs : List Section, sealLL fl cv (Section.cellsL xs) = some (Section.cellsL xs)
  | [] => rfl
  | x :: xs => by simp only [Section.cellsL, sealLL, Section.stay' x, Section.stayL xs, Option.bind_some]
end
@[simp] theorem Section.stay (x : Section) : sealL fl cv x.cells = some x.cells := Section.stay' fl cv x
@[simp] theorem Step.stay (x : Step) : sealL fl cv x.cells = some x.cells := _root_.id rfl
@[simp] theorem Table.stay (x : Table) : sealL fl cv x.cells = some x.cells := by
  simp only [Table.cells, sealL, sealV, sealP, Option.bind_some, sealLL_map fl cv Step.cells x.steps fun y _ => Step.stay fl cv y]
@[simp] theorem Strs.stay (l : List Str) : sealLL fl cv (l.map fun s => [V.str s]) = some (l.map fun s => [V.str s]) := sealLL_map fl cv _ l fun _ _ => rfl
@[simp] theorem Page.stay (x : Page) : sealL fl cv x.cells = some x.cells := by
  unfold Page.cells
  exact sealL_append fl cv _ _ (sealL_append fl cv _ _ rfl (Expr.stay fl cv _)) (by simp [sealL, sealV, sealP])
@[simp] theorem Def.stay (x : Def) : sealL fl cv x.cells = some x.cells := by
  unfold Def.cells
  exact sealL_append fl cv _ _ (sealL_append fl cv _ _ rfl (Section.stay fl cv _)) (by simp [sealL, sealV, sealP, sealLL_map])
@[simp] theorem Sect.stay (x : Sect) : sealL fl cv x.cells = some x.cells := by simp [Sect.cells, sealL, sealV, sealP]
@[simp] theorem Read.stay (x : Read) : sealL fl cv x.cells = some x.cells := _root_.id rfl
end
end Go.Abs.M
